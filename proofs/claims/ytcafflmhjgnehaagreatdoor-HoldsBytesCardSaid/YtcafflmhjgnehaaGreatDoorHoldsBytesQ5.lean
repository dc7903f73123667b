/-
  HoldsBytes: for every list of holds and every bytes in memory the function returns true, does not panic and leaves what was there; its condition is the one of its row. Part 6 of 14.
-/
import Derived.Test.YtcafflmhjgnehaaGreatDoorHoldsBytesQ2
import Derived.Test.YtcafflmhjgnehaaGreatDoorProg
import Derived.KernelRfl
set_option linter.unusedSimpArgs false
set_option linter.unusedVariables false
set_option linter.defProp false
set_option maxRecDepth 100000
/-
 The texts in the small language of some loaded functions, each held against the loaded one by the kernel.
-/
namespace Go.WK
open Go
def ir_cmp_isNaN_string : FIR := ⟨6, (.seq (.reg [.s 2 (.mv (.const (.bool false)))])
 (.seq (.reg [.s 3 (.mv (.tmp 0)),
  .s 4 (.mv (.tmp 0)),
  .s 5 (.bin .neq (.tmp 3) (.tmp 4)),
  .s 2 (.mv (.tmp 5))])
 .ret)), [.t 2]⟩
theorem c_cmp_isNaN_string : (compF Go.Proofs.Tryz.prog 150).map linF = some ir_cmp_isNaN_string := by kernel_rfl
def ir_cmp_Compare_string : FIR := ⟨20, (.seq (.reg [.s 4 (.mv (.const (.int .i64 0)))])
 (.seq (.reg [.s 7 (.mv (.tmp 0)),
  .s 8 (.call 150 [(.tmp 7)]),
  .s 5 (.mv (.tmp 8))])
 (.seq (.reg [.s 9 (.mv (.tmp 1)),
  .s 10 (.call 150 [(.tmp 9)]),
  .s 6 (.mv (.tmp 10))])
  (.seq (.seq (.reg [.s 11 (.mv (.tmp 5))])
   (.cnd (.tmp 11) (.seq (.seq (.reg [.s 12 (.mv (.tmp 6))])
     (.cnd (.tmp 12) (.seq (.reg [.s 4 (.mv (.const (.int .i64 0)))])
      .ret)
      .skip))
    (.seq (.reg [.s 4 (.mv (.const (.int .i64 (-1))))])
     .ret))
    .skip))
  (.seq (.seq (.reg [.s 13 (.mv (.tmp 6))])
   (.cnd (.tmp 13) (.seq (.reg [.s 4 (.mv (.const (.int .i64 1)))])
     .ret)
    .skip))
   (.seq (.seq (.reg [.s 14 (.mv (.tmp 0)),
    .s 15 (.mv (.tmp 1)),
    .s 16 (.bin .lss (.tmp 14) (.tmp 15))])
    (.cnd (.tmp 16) (.seq (.reg [.s 4 (.mv (.const (.int .i64 (-1))))])
     .ret)
     .skip))
   (.seq (.seq (.reg [.s 17 (.mv (.tmp 0)),
     .s 18 (.mv (.tmp 1)),
     .s 19 (.bin .gtr (.tmp 17) (.tmp 18))])
    (.cnd (.tmp 19) (.seq (.reg [.s 4 (.mv (.const (.int .i64 1)))])
      .ret)
     .skip))
    (.seq (.reg [.s 4 (.mv (.const (.int .i64 0)))])
    .ret)))))))), [.t 4]⟩
theorem c_cmp_Compare_string : (compF Go.Proofs.Tryz.prog 106).map linF = some ir_cmp_Compare_string := by kernel_rfl
def ir_span_text_none : FIR := ⟨6, (.seq (.reg [.s 1 (.box 140 (.tmp 0)),
 .s 2 (.mv (.const (.bool false)))])
 (.seq (.reg [.s 3 (.fa 0 (.tmp 1)),
  .s 4 (.ld (.tmp 3)),
  .s 5 (.bin .eql (.tmp 4) (.const (.string .empty))),
  .s 2 (.mv (.tmp 5))])
 .ret)), [.t 2]⟩
theorem c_span_text_none : (compF Go.Proofs.Tryz.prog 81).map linF = some ir_span_text_none := by kernel_rfl
def ir_span_text_compare : FIR := ⟨10, (.seq (.reg [.s 2 (.box 140 (.tmp 0)),
 .s 3 (.box 140 (.tmp 1)),
 .s 4 (.mv (.const (.int .i64 0)))])
 (.seq (.reg [.s 5 (.fa 0 (.tmp 2)),
  .s 6 (.ld (.tmp 5)),
  .s 7 (.fa 0 (.tmp 3)),
  .s 8 (.ld (.tmp 7)),
  .s 9 (.call 106 [(.tmp 6), (.tmp 8)]),
  .s 4 (.mv (.tmp 9))])
 .ret)), [.t 4]⟩
theorem c_span_text_compare : (compF Go.Proofs.Tryz.prog 84).map linF = some ir_span_text_compare := by kernel_rfl
def ir_span_high_above : FIR := ⟨15, (.seq (.reg [.s 2 (.box 143 (.tmp 0)),
 .s 3 (.box 140 (.tmp 1)),
 .s 4 (.mv (.const (.bool false)))])
 (.seq (.reg [.s 5 (.fa 0 (.tmp 2)),
  .s 6 (.ldn 1 (.tmp 5)),
  .s 7 (.call 81 [(.tmp 6)]),
  .s 8 (.mv (.tmp 7)),
  .g 9 8 false (.fa 0 (.tmp 2)),
  .g 10 8 false (.ldn 1 (.tmp 9)),
  .g 11 8 false (.ldn 1 (.tmp 3)),
  .g 12 8 false (.call 84 [(.tmp 10), (.tmp 11)]),
  .g 13 8 false (.bin .gtr (.tmp 12) (.const (.int .i64 0))),
  .s 14 (.pick (.tmp 8) (.const (.bool true)) (.tmp 13)),
  .s 4 (.mv (.tmp 14))])
 .ret)), [.t 4]⟩
theorem c_span_high_above : (compF Go.Proofs.Tryz.prog 83).map linF = some ir_span_high_above := by kernel_rfl
def ir_span_ends : FIR := ⟨12, (.seq (.reg [.s 1 (.box 31 (.tmp 0)),
 .s 2 (.new 142 [(.string .empty)]),
 .s 3 (.new 143 [(.string .empty)])])
 (.seq (.lin [(false, .s 4 (.fa 0 (.tmp 1))),
  (false, .s 5 (.ld (.tmp 4))),
  (false, .s 6 (.bld [(.string .empty)] [(0, 1, (.tmp 5))])),
  (false, .s 7 (.bld [(.string .empty)] [(0, 1, (.tmp 6))])),
  (false, .s 8 (.fa 1 (.tmp 1))),
  (false, .s 9 (.ld (.tmp 8))),
  (false, .s 10 (.bld [(.string .empty)] [(0, 1, (.tmp 9))])),
  (false, .s 11 (.bld [(.string .empty)] [(0, 1, (.tmp 10))])),
  (true, .e (.st 1 (.tmp 2) (.tmp 7))),
  (false, .e (.st 1 (.tmp 3) (.tmp 11)))])
 .ret)), [.cn 2 1, .cn 3 1]⟩
theorem c_span_ends : (compF Go.Proofs.Tryz.prog 80).map linF = some ir_span_ends := by kernel_rfl
def ir_span_Key : FIR := ⟨36, (.seq (.reg [.s 2 (.mv (.const (.bool false)))])
 (.seq (.seq (.reg [.s 5 (.mv (.tmp 0)),
  .s 6 (.bin .eql (.tmp 5) (.const (.string .empty))),
  .s 7 (.mv (.tmp 6)),
  .g 8 7 false (.mv (.tmp 0)),
  .g 9 7 false (.slen (.tmp 8)),
  .g 10 7 false (.bin .gtr (.tmp 9) (.const (.int .i64 20))),
  .s 11 (.pick (.tmp 7) (.const (.bool true)) (.tmp 10))])
  (.cnd (.tmp 11) (.seq (.reg [.s 2 (.mv (.const (.bool false)))])
   .ret)
   .skip))
 (.seq (.seq (.reg [.s 12 (.mv (.tmp 0)),
   .s 13 (.slen (.tmp 12)),
   .s 14 (.mv (.const (.int .i64 0)))])
  (.blk 0 (.loop (.seq (.reg [.s 15 (.bin .lss (.tmp 14) (.tmp 13))])
    (.seq (.cnd (.tmp 15) .skip
     (.exit 0))
    (.seq (.blk 1 (.seq (.reg [.s 16 (.mv (.tmp 14)),
      .s 3 (.mv (.tmp 16))])
      (.seq (.reg [.s 17 (.mv (.tmp 0)),
       .s 18 (.mv (.tmp 3)),
       .s 19 (.ixs (.tmp 17) (.tmp 18)),
       .s 4 (.mv (.tmp 19))])
      (.seq (.reg [.s 20 (.mv (.tmp 4)),
       .s 21 (.bin .geq (.tmp 20) (.const (.int .u8 97))),
       .s 22 (.mv (.tmp 21)),
       .g 23 22 true (.mv (.tmp 4)),
       .g 24 22 true (.bin .leq (.tmp 23) (.const (.int .u8 122))),
       .s 25 (.pick (.tmp 22) (.tmp 24) (.const (.bool false))),
       .s 26 (.mv (.tmp 25)),
       .g 27 26 false (.mv (.tmp 4)),
       .g 28 26 false (.bin .geq (.tmp 27) (.const (.int .u8 48))),
       .g 29 26 false (.mv (.tmp 28)),
       .g 30 29 true (.mv (.tmp 4)),
       .g 31 29 true (.bin .leq (.tmp 30) (.const (.int .u8 57))),
       .g 32 26 false (.pick (.tmp 29) (.tmp 31) (.const (.bool false))),
       .s 33 (.pick (.tmp 26) (.const (.bool true)) (.tmp 32)),
       .s 34 (.un .not (.tmp 33))])
       (.cnd (.tmp 34) (.seq (.reg [.s 2 (.mv (.const (.bool false)))])
        .ret)
        .skip)))))
     (.reg [.s 35 (.bin .add (.tmp 14) (.const (.int .i64 1))),
     .s 14 (.mv (.tmp 35))])))))))
  (.seq (.reg [.s 2 (.mv (.const (.bool true)))])
  .ret)))), [.t 2]⟩
theorem c_span_Key : (compF Go.Proofs.Tryz.prog 82).map linF = some ir_span_Key := by kernel_rfl
def ir_span_Right : FIR := ⟨34, (.seq (.reg [.s 1 (.box 31 (.tmp 0)),
 .s 2 (.mv (.const (.bool false)))])
 (.seq (.reg [.s 6 (.ldn 2 (.tmp 1)),
  .s 7 (.call 80 [(.tmp 6)]),
  .s 5 (.mv (.tmp 7)),
  .s 8 (.ext 0 (.tmp 5)),
  .s 9 (.ext 1 (.tmp 5)),
  .s 3 (.new 142 [(.string .empty)]),
  .s 4 (.new 143 [(.string .empty)]),
  .e (.st 1 (.tmp 3) (.tmp 8)),
  .e (.st 1 (.tmp 4) (.tmp 9))])
 (.seq (.reg [.s 10 (.fa 0 (.tmp 3)),
  .s 11 (.ldn 1 (.tmp 10)),
  .s 12 (.call 81 [(.tmp 11)]),
  .s 13 (.mv (.tmp 12)),
  .g 14 13 false (.fa 0 (.tmp 1)),
  .g 15 13 false (.ld (.tmp 14)),
  .g 16 13 false (.call 82 [(.tmp 15)]),
  .s 17 (.pick (.tmp 13) (.const (.bool true)) (.tmp 16)),
  .s 18 (.mv (.tmp 17)),
  .g 19 18 true (.fa 0 (.tmp 4)),
  .g 20 18 true (.ldn 1 (.tmp 19)),
  .g 21 18 true (.call 81 [(.tmp 20)]),
  .g 22 18 true (.mv (.tmp 21)),
  .g 23 22 false (.fa 1 (.tmp 1)),
  .g 24 22 false (.ld (.tmp 23)),
  .g 25 22 false (.call 82 [(.tmp 24)]),
  .g 26 18 true (.pick (.tmp 22) (.const (.bool true)) (.tmp 25)),
  .s 27 (.pick (.tmp 18) (.tmp 26) (.const (.bool false))),
  .s 28 (.mv (.tmp 27)),
  .g 29 28 true (.ldn 1 (.tmp 4)),
  .g 30 28 true (.fa 0 (.tmp 3)),
  .g 31 28 true (.ldn 1 (.tmp 30)),
  .g 32 28 true (.call 83 [(.tmp 29), (.tmp 31)]),
  .s 33 (.pick (.tmp 28) (.tmp 32) (.const (.bool false))),
  .s 2 (.mv (.tmp 33))])
  .ret))), [.t 2]⟩
theorem c_span_Right : (compF Go.Proofs.Tryz.prog 33).map linF = some ir_span_Right := by kernel_rfl
def ir_span_Has : FIR := ⟨32, (.seq (.reg [.s 2 (.box 31 (.tmp 0)),
 .s 4 (.mv (.const (.bool false)))])
 (.seq (.reg [.s 8 (.ldn 2 (.tmp 2)),
  .s 9 (.call 80 [(.tmp 8)]),
  .s 7 (.mv (.tmp 9)),
  .s 10 (.ext 0 (.tmp 7)),
  .s 11 (.ext 1 (.tmp 7)),
  .s 5 (.new 142 [(.string .empty)]),
  .s 6 (.new 143 [(.string .empty)]),
  .e (.st 1 (.tmp 5) (.tmp 10)),
  .e (.st 1 (.tmp 6) (.tmp 11))])
 (.seq (.reg [.s 12 (.ldn 2 (.tmp 2)),
  .s 13 (.call 33 [(.tmp 12)]),
  .s 14 (.mv (.tmp 13)),
  .g 15 14 true (.mv (.tmp 1)),
  .g 16 14 true (.call 82 [(.tmp 15)]),
  .s 17 (.pick (.tmp 14) (.tmp 16) (.const (.bool false))),
  .s 18 (.mv (.tmp 17)),
  .g 19 18 true (.fa 0 (.tmp 5)),
  .g 20 18 true (.ldn 1 (.tmp 19)),
  .g 21 18 true (.mv (.tmp 1)),
  .g 22 18 true (.bld [(.string .empty)] [(0, 1, (.tmp 21))]),
  .g 23 18 true (.call 84 [(.tmp 20), (.tmp 22)]),
  .g 24 18 true (.bin .leq (.tmp 23) (.const (.int .i64 0))),
  .s 25 (.pick (.tmp 18) (.tmp 24) (.const (.bool false))),
  .s 26 (.mv (.tmp 25)),
  .g 27 26 true (.ldn 1 (.tmp 6)),
  .g 28 26 true (.mv (.tmp 1)),
  .g 29 26 true (.bld [(.string .empty)] [(0, 1, (.tmp 28))]),
  .g 30 26 true (.call 83 [(.tmp 27), (.tmp 29)]),
  .s 31 (.pick (.tmp 26) (.tmp 30) (.const (.bool false))),
  .s 4 (.mv (.tmp 31))])
  .ret))), [.t 4]⟩
theorem c_span_Has : (compF Go.Proofs.Tryz.prog 34).map linF = some ir_span_Has := by kernel_rfl
end Go.WK
/-
 Texts' order, keys, spans: what the loaded functions give.
-/
namespace Go.WK
open Go Go.Proofs
theorem mixed : Tryz.prog.follows .mixedOrders = true := by kernel_rfl

def cmp3 (a b : ByteArray) : Int := if sless a b = true then -1 else if sless b a = true then 1 else 0
def keyByte (c : UInt8) : Bool := (decide (97 ≤ c.toNat) && decide (c.toNat ≤ 122)) || (decide (48 ≤ c.toNat) && decide (c.toNat ≤ 57))
def isKey (s : ByteArray) : Bool := !decide (s = .empty) && decide (s.size ≤ 20) && s.data.toList.all keyByte
def spAbove (hi t : ByteArray) : Bool := decide (hi = .empty) || sless t hi
def spRight (lo hi : ByteArray) : Bool := (decide (lo = .empty) || isKey lo) && (decide (hi = .empty) || isKey hi) && spAbove hi lo
def spHas (lo hi k : ByteArray) : Bool := spRight lo hi && isKey k && !sless k lo && spAbove hi k

theorem isNaN_cl {H : Hp} (s : ByteArray) : Cl Tryz.prog 150 [.string s] H fun r H' => r = .bool false ∧ H' = H := by
 refine cl_of mixed c_cmp_isNaN_string (Nat.le_of_ble_eq_true rfl) ?_
 simp only [fwp, ir_cmp_isNaN_string, argF, Nat.reduceAdd]
 refine w_reg fun K hK => ?_; simp (disch := omega) only [↓wD, wU, simprocAttr]; refine hK _ _ ?_; clear hK K
 refine w_reg fun K hK => ?_; simp (disch := omega) only [↓wD, wU, simprocAttr]; refine hK _ _ ?_; clear hK K
 refine w_ret ?_; (with_reducible repeat first | apply q_n | apply q_e | apply q_r | apply bq_n | apply bq_e | apply bq_r | apply bq_o rfl); refine ret1 (by (try simp only [wL, Nat.reduceBEq]); rfl) ?_
 exact ⟨rfl, rfl⟩

theorem Compare_cl {H : Hp} (a b : ByteArray) : Cl Tryz.prog 106 [.string a, .string b] H fun r H' => r = .int .i64 (cmp3 a b) ∧ H' = H := by
 refine cl_of mixed c_cmp_Compare_string (Nat.le_of_ble_eq_true rfl) ?_
 simp only [fwp, ir_cmp_Compare_string, argF, Nat.reduceAdd]
 refine w_reg fun K hK => ?_; simp (disch := omega) only [↓wD, wU, simprocAttr]; refine hK _ _ ?_; clear hK K
 refine w_reg fun K hK => ?_
 simp (disch := omega) only [↓wD, wU, simprocAttr]
 refine w_call (isNaN_cl a) ?_
 rintro _ _ ⟨rfl, rfl⟩
 simp (disch := omega) only [↓wD, wU, simprocAttr]
 refine hK _ _ ?_
 clear hK K
 refine w_reg fun K hK => ?_
 simp (disch := omega) only [↓wD, wU, simprocAttr]
 refine w_call (isNaN_cl b) ?_
 rintro _ _ ⟨rfl, rfl⟩
 simp (disch := omega) only [↓wD, wU, simprocAttr]
 refine hK _ _ ?_
 clear hK K
 refine w_seq (w_seq ?_)
 refine w_reg fun K hK => ?_; simp (disch := omega) only [↓wD, wU, simprocAttr]; refine hK _ _ ?_; clear hK K
 refine wf ?_
 refine w_skip ?_
 (with_reducible repeat first | apply q_n | apply q_e | apply q_r | apply bq_n | apply bq_e | apply bq_r | apply bq_o rfl)
 refine w_seq (w_seq ?_)
 refine w_reg fun K hK => ?_; simp (disch := omega) only [↓wD, wU, simprocAttr]; refine hK _ _ ?_; clear hK K
 refine wf ?_
 refine w_skip ?_
 (with_reducible repeat first | apply q_n | apply q_e | apply q_r | apply bq_n | apply bq_e | apply bq_r | apply bq_o rfl)
 refine w_seq (w_seq ?_)
 refine w_reg fun K hK => ?_; simp (disch := omega) only [↓wD, wU, simprocAttr]; refine hK _ _ ?_; clear hK K
 unfold cmp3
 cases h1 : sless a b with
 | true =>
  refine w_true (by simp only [wL, Nat.reduceBEq, Bool.not_true, Bool.not_false, h1]) ?_
  refine w_reg fun K hK => ?_; simp (disch := omega) only [↓wD, wU, simprocAttr]; refine hK _ _ ?_; clear hK K
  refine w_ret ?_; (with_reducible repeat first | apply q_n | apply q_e | apply q_r | apply bq_n | apply bq_e | apply bq_r | apply bq_o rfl); refine ret1 (by (try simp only [wL, Nat.reduceBEq]); rfl) ?_
  exact ⟨rfl, rfl⟩
 | false =>
  refine w_false (by simp only [wL, Nat.reduceBEq, Bool.not_true, Bool.not_false, h1]) ?_
  refine w_skip ?_
  (with_reducible repeat first | apply q_n | apply q_e | apply q_r | apply bq_n | apply bq_e | apply bq_r | apply bq_o rfl)
  refine w_seq (w_seq ?_)
  refine w_reg fun K hK => ?_; simp (disch := omega) only [↓wD, wU, simprocAttr]; refine hK _ _ ?_; clear hK K
  cases h2 : sless b a with
  | true =>
   refine w_true (by simp only [wL, Nat.reduceBEq, Bool.not_true, Bool.not_false, h2]) ?_
   refine w_reg fun K hK => ?_; simp (disch := omega) only [↓wD, wU, simprocAttr]; refine hK _ _ ?_; clear hK K
   refine w_ret ?_; (with_reducible repeat first | apply q_n | apply q_e | apply q_r | apply bq_n | apply bq_e | apply bq_r | apply bq_o rfl); refine ret1 (by (try simp only [wL, Nat.reduceBEq]); rfl) ?_
   exact ⟨rfl, rfl⟩
  | false =>
   refine w_false (by simp only [wL, Nat.reduceBEq, Bool.not_true, Bool.not_false, h2]) ?_
   refine w_skip ?_
   (with_reducible repeat first | apply q_n | apply q_e | apply q_r | apply bq_n | apply bq_e | apply bq_r | apply bq_o rfl)
   refine w_reg fun K hK => ?_; simp (disch := omega) only [↓wD, wU, simprocAttr]; refine hK _ _ ?_; clear hK K
   refine w_ret ?_; (with_reducible repeat first | apply q_n | apply q_e | apply q_r | apply bq_n | apply bq_e | apply bq_r | apply bq_o rfl); refine ret1 (by (try simp only [wL, Nat.reduceBEq]); rfl) ?_
   exact ⟨rfl, rfl⟩

theorem tcompare_cl {H : Hp} (a b : ByteArray) : Cl Tryz.prog 84 [.agg #[.string a], .agg #[.string b]] H fun r H' => r = .int .i64 (cmp3 a b) ∧ Ext H H' := by
 refine cl_of mixed c_span_text_compare (Nat.le_of_ble_eq_true rfl) ?_
 simp only [fwp, ir_span_text_compare, argF, Nat.reduceAdd]
 refine w_reg fun K hK => ?_; simp (disch := omega) only [↓wD, wU, simprocAttr]; refine hK _ _ ?_; clear hK K
 refine w_reg fun K hK => ?_
 simp (disch := omega) only [↓wD, wU, simprocAttr]
 refine w_call (Compare_cl a b) ?_
 rintro _ _ ⟨rfl, rfl⟩
 simp (disch := omega) only [↓wD, wU, simprocAttr]
 refine hK _ _ ?_
 clear hK K
 refine w_ret ?_; (with_reducible repeat first | apply q_n | apply q_e | apply q_r | apply bq_n | apply bq_e | apply bq_r | apply bq_o rfl); refine ret1 (by (try simp only [wL, Nat.reduceBEq]); rfl) ?_
 refine ⟨rfl, ?_⟩
 repeat (first | exact Ext.refl _ | assumption | (refine Ext.trans ?_ (by assumption)) | refine Ext.push ?_ _ | refine Ext.putc ?_ (by first | omega | (simp only [Array.size_push, putc_size]; omega)) _ _)

theorem tnone_cl {H : Hp} (a : ByteArray) : Cl Tryz.prog 81 [.agg #[.string a]] H fun r H' => r = .bool (decide (a = .empty)) ∧ Ext H H' := by
 refine cl_of mixed c_span_text_none (Nat.le_of_ble_eq_true rfl) ?_
 simp only [fwp, ir_span_text_none, argF, Nat.reduceAdd]
 refine w_reg fun K hK => ?_; simp (disch := omega) only [↓wD, wU, simprocAttr]; refine hK _ _ ?_; clear hK K
 refine w_reg fun K hK => ?_; simp (disch := omega) only [↓wD, wU, simprocAttr]; refine hK _ _ ?_; clear hK K
 refine w_ret ?_; (with_reducible repeat first | apply q_n | apply q_e | apply q_r | apply bq_n | apply bq_e | apply bq_r | apply bq_o rfl); refine ret1 (by (try simp only [wL, Nat.reduceBEq]); rfl) ?_
 refine ⟨rfl, ?_⟩
 repeat (first | exact Ext.refl _ | assumption | (refine Ext.trans ?_ (by assumption)) | refine Ext.push ?_ _ | refine Ext.putc ?_ (by first | omega | (simp only [Array.size_push, putc_size]; omega)) _ _)

theorem gt0 (a b : ByteArray) : (0 < cmp3 a b) = (sless b a = true) := by
 unfold cmp3
 cases h1 : sless a b with
 | true => simp [sless_asymm h1]
 | false => cases sless b a <;> simp
theorem le0 (a b : ByteArray) : (cmp3 a b ≤ 0) = (sless b a = false) := by
 unfold cmp3
 cases h1 : sless a b with
 | true => simp [sless_asymm h1]
 | false => cases sless b a <;> simp

theorem above_cl {H : Hp} (h t : ByteArray) : Cl Tryz.prog 83 [.agg #[.string h], .agg #[.string t]] H fun r H' => r = .bool (spAbove h t) ∧ Ext H H' := by
 refine cl_of mixed c_span_high_above (Nat.le_of_ble_eq_true rfl) ?_
 simp only [fwp, ir_span_high_above, argF, Nat.reduceAdd]
 refine w_reg fun K hK => ?_; simp (disch := omega) only [↓wD, wU, simprocAttr]; refine hK _ _ ?_; clear hK K
 refine w_reg fun K hK => ?_
 simp (disch := omega) only [↓wD, wU, simprocAttr]
 refine w_call (tnone_cl h) ?_
 rintro _ H1 ⟨rfl, hE⟩
 have hxhE := Ext.cell hE
 have hzhE := Ext.size hE
 try simp only [Array.size_push, putc_size] at hxhE hzhE
 by_cases h1 : h = .empty
 ·simp (disch := omega) only [↓wD, wU, simprocAttr, h1]
  refine hK _ _ ?_
  clear hK K
  refine w_ret ?_; (with_reducible repeat first | apply q_n | apply q_e | apply q_r | apply bq_n | apply bq_e | apply bq_r | apply bq_o rfl); refine ret1 (by (try simp only [wL, Nat.reduceBEq, h1]); rfl) ?_
  refine ⟨by simp [spAbove, h1], ?_⟩
  repeat (first | exact Ext.refl _ | assumption | (refine Ext.trans ?_ (by assumption)) | refine Ext.push ?_ _ | refine Ext.putc ?_ (by first | omega | (simp only [Array.size_push, putc_size]; omega)) _ _)
 ·simp (disch := omega) only [↓wD, wU, simprocAttr, h1, hxhE]
  refine w_call (tcompare_cl h t) ?_
  rintro _ H2 ⟨rfl, hE2⟩
  simp (disch := omega) only [↓wD, wU, simprocAttr, h1, gt0]
  refine hK _ _ ?_
  clear hK K
  refine w_ret ?_; (with_reducible repeat first | apply q_n | apply q_e | apply q_r | apply bq_n | apply bq_e | apply bq_r | apply bq_o rfl); refine ret1 (by (try simp only [wL, Nat.reduceBEq]); rfl) ?_
  refine ⟨by simp [spAbove, h1], ?_⟩
  repeat (first | exact Ext.refl _ | assumption | (refine Ext.trans ?_ (by assumption)) | refine Ext.push ?_ _ | refine Ext.putc ?_ (by first | omega | (simp only [Array.size_push, putc_size]; omega)) _ _)

theorem ends_cl {H : Hp} (lo hi : ByteArray) : Cl Tryz.prog 80 [.agg #[.string lo, .string hi]] H fun r H' => r = .tuple #[.agg #[.string lo], .agg #[.string hi]] ∧ Ext H H' := by
 refine cl_of mixed c_span_ends (Nat.le_of_ble_eq_true rfl) ?_
 simp only [fwp, ir_span_ends, argF, Nat.reduceAdd]
 refine w_reg fun K hK => ?_; simp (disch := omega) only [↓wD, wU, simprocAttr]; refine hK _ _ ?_; clear hK K
 refine w_lin (fun b => b = H.size) fun K hK => ?_
 simp (disch := omega) only [↓l_nil, ↓l_f, ↓l_t, ↓o_s, ↓o_e, ↓o_g, ↓o_ge, ↓k_ld, ↓k_ldn, isemS, ↓wD, wU, simprocAttr]
 refine ⟨?_, ?_⟩
 ·refine ⟨by simp only [Array.size_push, putc_size] <;> omega, ?_⟩
  rintro b hb rfl
  simp (disch := omega) only [getp, Array.size_push, putc_size, eqF, if_false, if_true]
 refine hK _ _ ?_
 clear hK K
 refine w_ret ?_
 (with_reducible repeat first | apply q_n | apply q_e | apply q_r | apply bq_n | apply bq_e | apply bq_r | apply bq_o rfl)
 refine retG (by (simp (disch := omega) only [resV, rvsV, rvV, oneOr, ↓wD, wU, simprocAttr]); rfl) ?_
 refine ⟨rfl, ?_⟩
 repeat (first | exact Ext.refl _ | assumption | (refine Ext.trans ?_ (by assumption)) | refine Ext.push ?_ _ | refine Ext.putc ?_ (by first | omega | (simp only [Array.size_push, putc_size]; omega)) _ _)

theorem isKey_t {s : ByteArray} (h1 : ¬ s = .empty) (h2 : ¬ (20 : Int) < s.size) (h3 : ∀ c ∈ s.data.toList, keyByte c = true) : isKey s = true := by
 simp only [isKey, h1, decide_false, Bool.not_false, Bool.true_and, Bool.and_eq_true, decide_eq_true_eq, List.all_eq_true]
 exact ⟨by omega, h3⟩
theorem isKey_f {s : ByteArray} {i : Nat} {c : UInt8} (h : s.data[i]? = some c) (hk : keyByte c = false) : isKey s = false := by
 have : c ∈ s.data.toList := by simpa using Array.mem_of_getElem? h
 have h2 : s.data.toList.all keyByte = false := by
  cases hx : s.data.toList.all keyByte with
  | false => rfl
  | true => rw [List.all_eq_true] at hx; rw [hx c this] at hk; cases hk
 simp [isKey, h2]

theorem Key_cl {H : Hp} (s : ByteArray) (hs : Sz s) : Cl Tryz.prog 82 [.string s] H fun r H' => r = .bool (isKey s) ∧ H' = H := by
 unfold Sz big at hs
 refine cl_of mixed c_span_Key (Nat.le_of_ble_eq_true rfl) ?_
 simp only [fwp, ir_span_Key, argF, Nat.reduceAdd]
 refine w_reg fun K hK => ?_; simp (disch := omega) only [↓wD, wU, simprocAttr]; refine hK _ _ ?_; clear hK K
 refine w_seq (w_seq ?_)
 by_cases h1 : s = .empty
 ·subst h1
  refine w_reg fun K hK => ?_; simp (disch := omega) only [↓wD, wU, simprocAttr]; refine hK _ _ ?_; clear hK K
  refine wt ?_
  refine w_reg fun K hK => ?_; simp (disch := omega) only [↓wD, wU, simprocAttr]; refine hK _ _ ?_; clear hK K
  refine w_ret ?_; (with_reducible repeat first | apply q_n | apply q_e | apply q_r | apply bq_n | apply bq_e | apply bq_r | apply bq_o rfl); refine ret1 (by (try simp only [wL, Nat.reduceBEq]); rfl) ?_
  exact ⟨by simp [isKey], rfl⟩
 by_cases h2 : (20 : Int) < s.size
 ·refine w_reg fun K hK => ?_; simp (disch := omega) only [↓wD, wU, simprocAttr, h1, h2]; refine hK _ _ ?_; clear hK K
  refine wt ?_
  refine w_reg fun K hK => ?_; simp (disch := omega) only [↓wD, wU, simprocAttr]; refine hK _ _ ?_; clear hK K
  refine w_ret ?_; (with_reducible repeat first | apply q_n | apply q_e | apply q_r | apply bq_n | apply bq_e | apply bq_r | apply bq_o rfl); refine ret1 (by (try simp only [wL, Nat.reduceBEq]); rfl) ?_
  refine ⟨?_, rfl⟩
  have : ¬ s.size ≤ 20 := by omega
  simp [isKey, this]
 refine w_reg fun K hK => ?_; simp (disch := omega) only [↓wD, wU, simprocAttr, h1, h2]; refine hK _ _ ?_; clear hK K
 refine wf ?_
 refine w_skip ?_
 (with_reducible repeat first | apply q_n | apply q_e | apply q_r | apply bq_n | apply bq_e | apply bq_r | apply bq_o rfl)
 refine w_seq (w_seq ?_)
 refine w_reg fun K hK => ?_; simp (disch := omega) only [↓wD, wU, simprocAttr]; refine hK _ _ ?_; clear hK K
 refine w_blk (w_loop (fun n f H' => H' = H ∧ f 0 = .string s ∧ f 13 = .int .i64 s.size ∧ ∃ i : Nat, f 14 = .int .i64 i ∧ i ≤ s.size ∧ (∀ j c, j < i → s.data[j]? = some c → keyByte c = true) ∧ n = s.size - i) _ ⟨rfl, rfl, rfl, 0, rfl, Nat.zero_le _, fun j c hj => by omega, rfl⟩ ?_)
 rintro n f H' ⟨rfl, f0, f13, i, f14, hi, hkey, rfl⟩
 by_cases hlt : i < s.size
 ·obtain ⟨c, hc⟩ : ∃ c, s.data[i]? = some c := ⟨_, Array.getElem?_eq_getElem hlt⟩
  refine w_reg fun K hK => ?_; simp (disch := omega) only [↓wD, wU, simprocAttr, f13, f14, hlt]; refine hK _ _ ?_; clear hK K
  refine w_seq ?_
  refine wt ?_
  refine w_skip ?_
  (with_reducible repeat first | apply q_n | apply q_e | apply q_r | apply bq_n | apply bq_e | apply bq_r | apply bq_o rfl)
  refine w_seq (w_blk ?_)
  refine w_reg fun K hK => ?_; simp (disch := omega) only [↓wD, wU, simprocAttr, f14]; refine hK _ _ ?_; clear hK K
  refine w_reg fun K hK => ?_; simp (disch := omega) only [↓wD, wU, simprocAttr, f0, f14, hc]; refine hK _ _ ?_; clear hK K
  have hk' : keyByte c = true ↔ ((97 : Int) ≤ c.toNat ∧ (c.toNat : Int) ≤ 122) ∨ ((48 : Int) ≤ c.toNat ∧ (c.toNat : Int) ≤ 57) := by
   simp only [keyByte, Bool.or_eq_true, Bool.and_eq_true, decide_eq_true_eq]; omega
  cases hk : keyByte c with
  | true =>
   rw [hk] at hk'
   simp only [true_iff] at hk'
   by_cases a1 : (97 : Int) ≤ c.toNat <;> by_cases a2 : (c.toNat : Int) ≤ 122 <;> by_cases a3 : (48 : Int) ≤ c.toNat <;> by_cases a4 : (c.toNat : Int) ≤ 57 <;> (try omega)
   all_goals
    refine w_reg fun K hK => ?_; simp (disch := omega) only [↓wD, wU, simprocAttr, a1, a2, a3, a4]; refine hK _ _ ?_; clear hK K
    refine wf ?_
    refine w_skip ?_
    (with_reducible repeat first | apply q_n | apply q_e | apply q_r | apply bq_n | apply bq_e | apply bq_r | apply bq_o rfl)
    refine w_reg1 fun K hK => ?_; simp (disch := omega) only [↓wD, wU, simprocAttr, f14]; refine hK _ _ ?_; clear hK K
    (with_reducible repeat first | apply q_n | apply q_e | apply q_r | apply bq_n | apply bq_e | apply bq_r | apply bq_o rfl)
    exact ⟨s.size - (i + 1), by omega, rfl, (by simp only [wL, Nat.reduceBEq, f0]), (by simp only [wL, Nat.reduceBEq, f13]), i + 1, (by simp only [wL, Nat.reduceBEq]), by omega, fun j c' hj hc' => (by
     by_cases hji : j = i
     ·subst hji; rw [hc] at hc'; cases hc'; exact hk
     ·exact hkey j c' (by omega) hc'), rfl⟩
  | false =>
   rw [hk] at hk'
   simp only [Bool.false_eq_true, false_iff] at hk'
   by_cases a1 : (97 : Int) ≤ c.toNat <;> by_cases a2 : (c.toNat : Int) ≤ 122 <;> by_cases a3 : (48 : Int) ≤ c.toNat <;> by_cases a4 : (c.toNat : Int) ≤ 57 <;> (try omega)
   all_goals
    refine w_reg fun K hK => ?_; simp (disch := omega) only [↓wD, wU, simprocAttr, a1, a2, a3, a4]; refine hK _ _ ?_; clear hK K
    refine wt ?_
    refine w_reg fun K hK => ?_; simp (disch := omega) only [↓wD, wU, simprocAttr]; refine hK _ _ ?_; clear hK K
    refine w_ret ?_; (with_reducible repeat first | apply q_n | apply q_e | apply q_r | apply bq_n | apply bq_e | apply bq_r | apply bq_o rfl); refine ret1 (by (try simp only [wL, Nat.reduceBEq]); rfl) ?_
    exact ⟨by rw [isKey_f hc hk], rfl⟩
 ·refine w_reg fun K hK => ?_; simp (disch := omega) only [↓wD, wU, simprocAttr, f13, f14, hlt]; refine hK _ _ ?_; clear hK K
  refine w_seq ?_
  refine wf ?_
  refine w_exit ?_
  (with_reducible repeat first | apply q_n | apply q_e | apply q_r | apply bq_n | apply bq_e | apply bq_r | apply bq_o rfl)
  refine w_reg fun K hK => ?_; simp (disch := omega) only [↓wD, wU, simprocAttr]; refine hK _ _ ?_; clear hK K
  refine w_ret ?_; (with_reducible repeat first | apply q_n | apply q_e | apply q_r | apply bq_n | apply bq_e | apply bq_r | apply bq_o rfl); refine ret1 (by (try simp only [wL, Nat.reduceBEq]); rfl) ?_
  refine ⟨?_, rfl⟩
  rw [isKey_t h1 h2 fun c hc => ?_]
  obtain ⟨j, hj, e⟩ := List.getElem_of_mem hc
  have hj' : j < s.data.size := by simpa using hj
  have hsz : s.data.size = s.size := rfl
  exact hkey j c (by omega) (by rw [Array.getElem?_eq_getElem hj']; simpa using e)

theorem spRight_cl {H : Hp} (lo hi : ByteArray) (h1 : Sz lo) (h2 : Sz hi) : Cl Tryz.prog 33 [.agg #[.string lo, .string hi]] H fun r H' => r = .bool (spRight lo hi) ∧ Ext H H' := by
 refine cl_of mixed c_span_Right (Nat.le_of_ble_eq_true rfl) ?_
 simp only [fwp, ir_span_Right, argF, Nat.reduceAdd]
 refine w_reg fun K hK => ?_; simp (disch := omega) only [↓wD, wU, simprocAttr]; refine hK _ _ ?_; clear hK K
 refine w_reg fun K hK => ?_
 simp (disch := omega) only [↓wD, wU, simprocAttr]
 refine w_call (ends_cl lo hi) ?_
 rintro _ H1 ⟨rfl, hE⟩
 have hxhE := Ext.cell hE
 have hzhE := Ext.size hE
 try simp only [Array.size_push, putc_size] at hxhE hzhE
 simp (disch := omega) only [↓wD, wU, simprocAttr]
 refine hK _ _ ?_
 clear hK K
 refine w_reg fun K hK => ?_
 simp (disch := omega) only [↓wD, wU, simprocAttr]
 have hlo : lo = .empty ∨ ((lo = .empty) = False ∧ isKey lo = true) ∨ ((lo = .empty) = False ∧ isKey lo = false) := by
  by_cases e : lo = .empty
  ·exact .inl e
  ·cases isKey lo <;> simp [e]
 have hhi : hi = .empty ∨ ((hi = .empty) = False ∧ isKey hi = true) ∨ ((hi = .empty) = False ∧ isKey hi = false) := by
  by_cases e : hi = .empty
  ·exact .inl e
  ·cases isKey hi <;> simp [e]
 rcases hlo with rfl | ⟨e1, k1⟩ | ⟨e1, k1⟩ <;> rcases hhi with rfl | ⟨e2, k2⟩ | ⟨e2, k2⟩
 all_goals
  repeat (first | ((with_reducible refine w_call (tnone_cl _) ?_); rintro _ Hc ⟨rfl, hEc⟩; have hxc := Ext.cell hEc; have hzc := Ext.size hEc; (try simp only [Array.size_push, putc_size] at hxc hzc); simp (disch := omega) only [↓wD, wU, simprocAttr, *]) | ((with_reducible refine w_call (Key_cl _ h1) ?_); rintro _ _ ⟨rfl, rfl⟩; simp (disch := omega) only [↓wD, wU, simprocAttr, *]) | ((with_reducible refine w_call (Key_cl _ h2) ?_); rintro _ _ ⟨rfl, rfl⟩; simp (disch := omega) only [↓wD, wU, simprocAttr, *]) | ((with_reducible refine w_call (above_cl _ _) ?_); rintro _ Hc ⟨rfl, hEc⟩; have hxc := Ext.cell hEc; have hzc := Ext.size hEc; (try simp only [Array.size_push, putc_size] at hxc hzc); simp (disch := omega) only [↓wD, wU, simprocAttr, *]))
  refine hK _ _ ?_
  clear hK K
  refine w_ret ?_; (with_reducible repeat first | apply q_n | apply q_e | apply q_r | apply bq_n | apply bq_e | apply bq_r | apply bq_o rfl); refine ret1 (by (try simp only [wL, Nat.reduceBEq]); rfl) ?_
  refine ⟨by simp [spRight, *], ?_⟩
  repeat (first | exact Ext.refl _ | assumption | (refine Ext.trans ?_ (by assumption)) | refine Ext.push ?_ _ | refine Ext.putc ?_ (by first | omega | (simp only [Array.size_push, putc_size]; omega)) _ _)

theorem spHas_cl {H : Hp} (lo hi k : ByteArray) (h1 : Sz lo) (h2 : Sz hi) (h3 : Sz k) : Cl Tryz.prog 34 [.agg #[.string lo, .string hi], .string k] H fun r H' => r = .bool (spHas lo hi k) ∧ Ext H H' := by
 refine cl_of mixed c_span_Has (Nat.le_of_ble_eq_true rfl) ?_
 simp only [fwp, ir_span_Has, argF, Nat.reduceAdd]
 refine w_reg fun K hK => ?_; simp (disch := omega) only [↓wD, wU, simprocAttr]; refine hK _ _ ?_; clear hK K
 refine w_reg fun K hK => ?_
 simp (disch := omega) only [↓wD, wU, simprocAttr]
 refine w_call (ends_cl lo hi) ?_
 rintro _ H1 ⟨rfl, hE⟩
 have hxhE := Ext.cell hE
 have hzhE := Ext.size hE
 try simp only [Array.size_push, putc_size] at hxhE hzhE
 simp (disch := omega) only [↓wD, wU, simprocAttr]
 refine hK _ _ ?_
 clear hK K
 refine w_reg fun K hK => ?_
 simp (disch := omega) only [↓wD, wU, simprocAttr, hxhE]
 cases r1 : spRight lo hi <;> cases r2 : isKey k <;> cases r3 : sless k lo
 all_goals
  repeat (first | ((with_reducible refine w_call (spRight_cl _ _ h1 h2) ?_); rintro _ Hc ⟨rfl, hEc⟩; have hxc := Ext.cell hEc; have hzc := Ext.size hEc; (try simp only [Array.size_push, putc_size] at hxc hzc); simp (disch := omega) only [↓wD, wU, simprocAttr, *]) | ((with_reducible refine w_call (Key_cl _ h3) ?_); rintro _ _ ⟨rfl, rfl⟩; simp (disch := omega) only [↓wD, wU, simprocAttr, *]) | ((with_reducible refine w_call (tcompare_cl _ _) ?_); rintro _ Hc ⟨rfl, hEc⟩; have hxc := Ext.cell hEc; have hzc := Ext.size hEc; (try simp only [Array.size_push, putc_size] at hxc hzc); simp (disch := omega) only [↓wD, wU, simprocAttr, *]) | ((with_reducible refine w_call (above_cl _ _) ?_); rintro _ Hc ⟨rfl, hEc⟩; have hxc := Ext.cell hEc; have hzc := Ext.size hEc; (try simp only [Array.size_push, putc_size] at hxc hzc); simp (disch := omega) only [↓wD, wU, simprocAttr, *]) | (simp only [le0, r3, decide_true, decide_false, Bool.false_eq_true, reduceCtorEq]; simp (disch := omega) only [↓wD, wU, simprocAttr, *]))
  refine hK _ _ ?_
  clear hK K
  refine w_ret ?_; (with_reducible repeat first | apply q_n | apply q_e | apply q_r | apply bq_n | apply bq_e | apply bq_r | apply bq_o rfl); refine ret1 (by (try simp only [wL, Nat.reduceBEq]); rfl) ?_
  refine ⟨by simp [spHas, *], ?_⟩
  repeat (first | exact Ext.refl _ | assumption | (refine Ext.trans ?_ (by assumption)) | refine Ext.push ?_ _ | refine Ext.putc ?_ (by first | omega | (simp only [Array.size_push, putc_size]; omega)) _ _)
end Go.WK
/-
 The texts in the small language of some loaded functions, each held against the loaded one by the kernel.
-/
namespace Go.WK
open Go
def ir_wire_written_put : FIR := ⟨17, (.seq (.reg [.s 4 (.mv (.tmp 0)),
 .s 5 (.nck (.tmp 4)),
 .s 6 (.fa 0 (.tmp 5)),
 .s 7 (.ld (.tmp 6))])
 (.cnd (.tmp 7) (.reg [.s 8 (.mv (.tmp 0)),
  .s 9 (.mv (.tmp 0)),
  .s 10 (.nck (.tmp 9)),
  .s 11 (.fa 2 (.tmp 10)),
  .s 12 (.ld (.tmp 11)),
  .s 13 (.mv (.tmp 1)),
  .s 14 (.app 5 1 1 [(.int .u8 0)] (.tmp 12) (.tmp 13)),
  .s 15 (.nck (.tmp 8)),
  .s 16 (.fa 2 (.tmp 15)),
  .e (.st 1 (.tmp 16) (.tmp 14))])
  .skip)), []⟩
theorem c_wire_written_put : (compF Go.Proofs.Tryz.prog 120).map linF = some ir_wire_written_put := by kernel_rfl
def ir_wire_written_number : FIR := ⟨28, (.seq (.seq (.reg [.s 4 (.mv (.tmp 1)),
  .s 5 (.bin .lss (.tmp 4) (.const (.int .i64 0))),
  .s 6 (.mv (.tmp 5)),
  .g 7 6 false (.mv (.tmp 1)),
  .g 8 6 false (.bin .gtr (.tmp 7) (.const (.int .i64 4611686018427387903))),
  .s 9 (.pick (.tmp 6) (.const (.bool true)) (.tmp 8))])
 (.cnd (.tmp 9) (.seq (.reg [.s 10 (.mv (.tmp 0)),
   .s 11 (.nck (.tmp 10)),
   .s 12 (.fa 1 (.tmp 11)),
   .e (.st 1 (.tmp 12) (.const (.bool true)))])
   .ret)
  .skip))
 (.seq (.blk 0 (.loop (.seq (.seq (.reg [.s 13 (.mv (.tmp 1)),
    .s 14 (.bin .gtr (.tmp 13) (.const (.int .i64 127)))])
   (.cnd (.tmp 14) .skip
    (.exit 0)))
   (.seq (.blk 1 (.reg [.s 17 (.mv (.tmp 0)),
    .s 18 (.mv (.tmp 1)),
    .s 19 (.cvi .u8 (.tmp 18)),
    .s 20 (.bin .or (.tmp 19) (.const (.int .u8 128))),
    .s 21 (.bsl 5 1 [(.int .u8 0)] [(0, 1, (.tmp 20))]),
    .s 22 (.call 120 [(.tmp 17), (.tmp 21)])]))
   (.reg [.s 15 (.mv (.tmp 1)),
    .s 16 (.bin .shr (.tmp 15) (.const (.int .u64 7))),
    .s 1 (.mv (.tmp 16))])))))
 (.reg [.s 23 (.mv (.tmp 0)),
  .s 24 (.mv (.tmp 1)),
  .s 25 (.cvi .u8 (.tmp 24)),
  .s 26 (.bsl 5 1 [(.int .u8 0)] [(0, 1, (.tmp 25))]),
  .s 27 (.call 120 [(.tmp 23), (.tmp 26)])]))), []⟩
theorem c_wire_written_number : (compF Go.Proofs.Tryz.prog 118).map linF = some ir_wire_written_number := by kernel_rfl
def ir_wire_Writer_known : FIR := ⟨12, (.seq (.reg [.s 2 (.mv (.const (.bool false)))])
 (.seq (.reg [.s 3 (.mv (.tmp 0)),
  .s 4 (.eqz .ptr true (.tmp 3) (.const (.pointer none))),
  .s 5 (.mv (.tmp 4)),
  .g 6 5 true (.mv (.tmp 0)),
  .g 7 5 true (.nck (.tmp 6)),
  .g 8 5 true (.fa 0 (.tmp 7)),
  .g 9 5 true (.fa 0 (.tmp 8)),
  .g 10 5 true (.ld (.tmp 9)),
  .s 11 (.pick (.tmp 5) (.tmp 10) (.const (.bool false))),
  .s 2 (.mv (.tmp 11))])
 .ret)), [.t 2]⟩
theorem c_wire_Writer_known : (compF Go.Proofs.Tryz.prog 66).map linF = some ir_wire_Writer_known := by kernel_rfl
def ir_wire_Writer_Numbers : FIR := ⟨22, (.seq (.reg [.s 4 (.mv (.const (.pointer none)))])
 (.seq (.seq (.reg [.s 7 (.mv (.tmp 0)),
  .s 8 (.call 66 [(.tmp 7)])])
  (.cnd (.tmp 8) (.seq (.reg [.s 9 (.mv (.tmp 1)),
    .s 10 (.len (.tmp 9)),
    .s 11 (.mv (.const (.int .i64 0)))])
   (.blk 0 (.loop (.seq (.reg [.s 12 (.bin .lss (.tmp 11) (.tmp 10))])
     (.seq (.cnd (.tmp 12) .skip
      (.exit 0))
     (.seq (.blk 1 (.seq (.reg [.s 13 (.ia 1 (.tmp 9) (.tmp 11)),
       .s 14 (.ld (.tmp 13)),
       .s 6 (.mv (.tmp 14))])
       (.reg [.s 15 (.mv (.tmp 0)),
       .s 16 (.nck (.tmp 15)),
       .s 17 (.fa 0 (.tmp 16)),
       .s 18 (.mv (.tmp 6)),
       .s 19 (.call 118 [(.tmp 17), (.tmp 18)])])))
      (.reg [.s 20 (.bin .add (.tmp 11) (.const (.int .i64 1))),
      .s 11 (.mv (.tmp 20))])))))))
   .skip))
 (.seq (.reg [.s 21 (.mv (.tmp 0)),
  .s 4 (.mv (.tmp 21))])
  .ret))), [.t 4]⟩
theorem c_wire_Writer_Numbers : (compF Go.Proofs.Tryz.prog 63).map linF = some ir_wire_Writer_Numbers := by kernel_rfl
def ir_wire_Writer_Flags : FIR := ⟨28, (.seq (.reg [.s 4 (.mv (.const (.pointer none)))])
 (.seq (.seq (.reg [.s 7 (.mv (.tmp 0)),
  .s 8 (.call 66 [(.tmp 7)])])
  (.cnd (.tmp 8) (.seq (.reg [.s 9 (.mv (.tmp 1)),
    .s 10 (.len (.tmp 9)),
    .s 11 (.mv (.const (.int .i64 0)))])
   (.blk 0 (.loop (.seq (.reg [.s 12 (.bin .lss (.tmp 11) (.tmp 10))])
     (.seq (.cnd (.tmp 12) .skip
      (.exit 0))
     (.seq (.blk 1 (.seq (.reg [.s 13 (.ia 1 (.tmp 9) (.tmp 11)),
       .s 14 (.ld (.tmp 13)),
       .s 6 (.mv (.tmp 14))])
       (.seq (.reg [.s 15 (.mv (.tmp 6))])
       (.cnd (.tmp 15) (.reg [.s 16 (.mv (.tmp 0)),
         .s 17 (.nck (.tmp 16)),
         .s 18 (.fa 0 (.tmp 17)),
         .s 19 (.bsl 5 1 [(.int .u8 0)] [(0, 1, (.const (.int .u8 1)))]),
         .s 20 (.call 120 [(.tmp 18), (.tmp 19)])])
        (.reg [.s 21 (.mv (.tmp 0)),
         .s 22 (.nck (.tmp 21)),
         .s 23 (.fa 0 (.tmp 22)),
         .s 24 (.bsl 5 1 [(.int .u8 0)] [(0, 1, (.const (.int .u8 0)))]),
         .s 25 (.call 120 [(.tmp 23), (.tmp 24)])])))))
      (.reg [.s 26 (.bin .add (.tmp 11) (.const (.int .i64 1))),
      .s 11 (.mv (.tmp 26))])))))))
   .skip))
 (.seq (.reg [.s 27 (.mv (.tmp 0)),
  .s 4 (.mv (.tmp 27))])
  .ret))), [.t 4]⟩
theorem c_wire_Writer_Flags : (compF Go.Proofs.Tryz.prog 65).map linF = some ir_wire_Writer_Flags := by kernel_rfl
def ir_wire_Writer_Texts : FIR := ⟨22, (.seq (.reg [.s 4 (.mv (.const (.pointer none)))])
 (.seq (.seq (.reg [.s 7 (.mv (.tmp 0)),
  .s 8 (.call 66 [(.tmp 7)])])
  (.cnd (.tmp 8) (.seq (.reg [.s 9 (.mv (.tmp 1)),
    .s 10 (.len (.tmp 9)),
    .s 11 (.mv (.const (.int .i64 0)))])
   (.blk 0 (.loop (.seq (.reg [.s 12 (.bin .lss (.tmp 11) (.tmp 10))])
     (.seq (.cnd (.tmp 12) .skip
      (.exit 0))
     (.seq (.blk 1 (.seq (.reg [.s 13 (.ia 1 (.tmp 9) (.tmp 11)),
       .s 14 (.ld (.tmp 13)),
       .s 6 (.mv (.tmp 14))])
       (.reg [.s 15 (.mv (.tmp 0)),
       .s 16 (.mv (.tmp 6)),
       .s 17 (.csb 5 (.tmp 16)),
       .s 18 (.bsl 46 1 [(.slice none 0 0)] [(0, 1, (.tmp 17))]),
       .s 19 (.call 119 [(.tmp 15), (.tmp 18)])])))
      (.reg [.s 20 (.bin .add (.tmp 11) (.const (.int .i64 1))),
      .s 11 (.mv (.tmp 20))])))))))
   .skip))
 (.seq (.reg [.s 21 (.mv (.tmp 0)),
  .s 4 (.mv (.tmp 21))])
  .ret))), [.t 4]⟩
theorem c_wire_Writer_Texts : (compF Go.Proofs.Tryz.prog 64).map linF = some ir_wire_Writer_Texts := by kernel_rfl
def ir_wire_Writer_Rows : FIR := ⟨28, (.seq (.reg [.s 4 (.mv (.const (.pointer none)))])
 (.seq (.seq (.reg [.s 7 (.mv (.tmp 0)),
  .s 8 (.call 66 [(.tmp 7)])])
  (.cnd (.tmp 8) (.seq (.reg [.s 9 (.mv (.tmp 1)),
    .s 10 (.len (.tmp 9)),
    .s 11 (.mv (.const (.int .i64 0)))])
   (.blk 0 (.loop (.seq (.reg [.s 12 (.bin .lss (.tmp 11) (.tmp 10))])
     (.seq (.cnd (.tmp 12) .skip
      (.exit 0))
     (.seq (.blk 1 (.seq (.reg [.s 13 (.ia 1 (.tmp 9) (.tmp 11)),
       .s 14 (.ld (.tmp 13)),
       .s 6 (.mv (.tmp 14))])
       (.seq (.reg [.s 15 (.mv (.tmp 0)),
        .s 16 (.nck (.tmp 15)),
        .s 17 (.fa 0 (.tmp 16)),
        .s 18 (.mv (.tmp 6)),
        .s 19 (.len (.tmp 18)),
        .s 20 (.call 118 [(.tmp 17), (.tmp 19)])])
       (.reg [.s 21 (.mv (.tmp 0)),
        .s 22 (.nck (.tmp 21)),
        .s 23 (.fa 0 (.tmp 22)),
        .s 24 (.mv (.tmp 6)),
        .s 25 (.call 120 [(.tmp 23), (.tmp 24)])]))))
      (.reg [.s 26 (.bin .add (.tmp 11) (.const (.int .i64 1))),
      .s 11 (.mv (.tmp 26))])))))))
   .skip))
 (.seq (.reg [.s 27 (.mv (.tmp 0)),
  .s 4 (.mv (.tmp 27))])
  .ret))), [.t 4]⟩
theorem c_wire_Writer_Rows : (compF Go.Proofs.Tryz.prog 119).map linF = some ir_wire_Writer_Rows := by kernel_rfl
def ir_wire_NewWriter : FIR := ⟨4, (.seq (.reg [.s 0 (.mv (.const (.pointer none)))])
 (.seq (.reg [.s 1 (.bld [(.bool false), (.bool false), (.slice none 0 0)] [(0, 1, (.const (.bool true)))]),
  .s 2 (.bld [(.bool false), (.bool false), (.slice none 0 0)] [(0, 3, (.tmp 1))]),
  .s 3 (.box 125 (.tmp 2)),
  .s 0 (.mv (.tmp 3))])
 .ret)), [.t 0]⟩
theorem c_wire_NewWriter : (compF Go.Proofs.Tryz.prog 21).map linF = some ir_wire_NewWriter := by kernel_rfl
def ir_wire_Writer_Done : FIR := ⟨20, (.seq (.reg [.s 2 (.mv (.const (.slice none 0 0))),
 .s 3 (.mv (.const (.int .i64 0)))])
 (.seq (.blk 0 (.seq (.reg [.s 5 (.mv (.tmp 0)),
   .s 6 (.call 66 [(.tmp 5)]),
   .s 7 (.un .not (.tmp 6)),
   .s 4 (.mv (.tmp 7))])
  (.cnd (.tmp 4) (.seq (.reg [.s 2 (.mv (.const (.slice none 0 0))),
    .s 3 (.mv (.const (.int .i64 1)))])
    .ret)
   (.seq (.reg [.s 9 (.mv (.tmp 0)),
    .s 10 (.nck (.tmp 9)),
    .s 11 (.fa 0 (.tmp 10)),
    .s 12 (.fa 1 (.tmp 11)),
    .s 13 (.ld (.tmp 12)),
    .s 8 (.mv (.tmp 13))])
    (.cnd (.tmp 8) (.seq (.reg [.s 2 (.mv (.const (.slice none 0 0))),
      .s 3 (.mv (.const (.int .i64 2)))])
     .ret)
     .skip)))))
 (.seq (.reg [.s 14 (.mv (.tmp 0)),
  .s 15 (.nck (.tmp 14)),
  .s 16 (.fa 0 (.tmp 15)),
  .s 17 (.fa 2 (.tmp 16)),
  .s 18 (.ld (.tmp 17)),
  .s 19 (.call 67 [(.tmp 18)]),
  .s 2 (.mv (.tmp 19)),
  .s 3 (.mv (.const (.int .i64 0)))])
  .ret))), [.t 2, .t 3]⟩
theorem c_wire_Writer_Done : (compF Go.Proofs.Tryz.prog 22).map linF = some ir_wire_Writer_Done := by kernel_rfl
def ir_slices_Clone_byte : FIR := ⟨8, (.seq (.reg [.s 2 (.mv (.const (.slice none 0 0)))])
 (.seq (.seq (.reg [.s 3 (.mv (.tmp 0)),
  .s 4 (.eqz .sli false (.tmp 3) (.const (.slice none 0 0)))])
  (.cnd (.tmp 4) (.seq (.reg [.s 2 (.mv (.const (.slice none 0 0)))])
   .ret)
   .skip))
 (.seq (.reg [.s 5 (.bsl 5 0 [] []),
  .s 6 (.mv (.tmp 0)),
  .s 7 (.app 5 1 1 [(.int .u8 0)] (.tmp 5) (.tmp 6)),
  .s 2 (.mv (.tmp 7))])
  .ret))), [.t 2]⟩
theorem c_slices_Clone_byte : (compF Go.Proofs.Tryz.prog 67).map linF = some ir_slices_Clone_byte := by kernel_rfl
end Go.WK
/-
 The texts in the small language of some loaded functions, each held against the loaded one by the kernel.
-/
namespace Go.WK
open Go
def ir_wire_NewReader : FIR := ⟨8, (.seq (.reg [.s 2 (.mv (.const (.pointer none)))])
 (.seq (.reg [.s 3 (.mv (.tmp 0)),
  .s 4 (.call 67 [(.tmp 3)]),
  .s 5 (.bld [(.bool false), (.bool false), (.slice none 0 0)] [(0, 1, (.const (.bool true))), (2, 1, (.tmp 4))]),
  .s 6 (.bld [(.bool false), (.bool false), (.slice none 0 0)] [(0, 3, (.tmp 5))]),
  .s 7 (.box 134 (.tmp 6)),
  .s 2 (.mv (.tmp 7))])
 .ret)), [.t 2]⟩
theorem c_wire_NewReader : (compF Go.Proofs.Tryz.prog 28).map linF = some ir_wire_NewReader := by kernel_rfl
def ir_wire_Reader_on : FIR := ⟨20, (.seq (.reg [.s 2 (.mv (.const (.bool false)))])
 (.seq (.reg [.s 3 (.mv (.tmp 0)),
  .s 4 (.eqz .ptr true (.tmp 3) (.const (.pointer none))),
  .s 5 (.mv (.tmp 4)),
  .g 6 5 true (.mv (.tmp 0)),
  .g 7 5 true (.nck (.tmp 6)),
  .g 8 5 true (.fa 0 (.tmp 7)),
  .g 9 5 true (.fa 0 (.tmp 8)),
  .g 10 5 true (.ld (.tmp 9)),
  .s 11 (.pick (.tmp 5) (.tmp 10) (.const (.bool false))),
  .s 12 (.mv (.tmp 11)),
  .g 13 12 true (.mv (.tmp 0)),
  .g 14 12 true (.nck (.tmp 13)),
  .g 15 12 true (.fa 0 (.tmp 14)),
  .g 16 12 true (.fa 1 (.tmp 15)),
  .g 17 12 true (.ld (.tmp 16)),
  .g 18 12 true (.un .not (.tmp 17)),
  .s 19 (.pick (.tmp 12) (.tmp 18) (.const (.bool false))),
  .s 2 (.mv (.tmp 19))])
 .ret)), [.t 2]⟩
theorem c_wire_Reader_on : (compF Go.Proofs.Tryz.prog 79).map linF = some ir_wire_Reader_on := by kernel_rfl
def ir_wire_place_take : FIR := ⟨32, (.seq (.reg [.s 4 (.mv (.const (.slice none 0 0)))])
 (.seq (.seq (.reg [.s 6 (.mv (.tmp 1)),
  .s 7 (.mv (.tmp 0)),
  .s 8 (.nck (.tmp 7)),
  .s 9 (.fa 2 (.tmp 8)),
  .s 10 (.ld (.tmp 9)),
  .s 11 (.len (.tmp 10)),
  .s 12 (.bin .gtr (.tmp 6) (.tmp 11))])
  (.cnd (.tmp 12) (.seq (.reg [.s 13 (.mv (.tmp 0)),
    .s 14 (.call 134 [(.tmp 13)])])
   (.seq (.reg [.s 4 (.mv (.const (.slice none 0 0)))])
    .ret))
   .skip))
 (.seq (.reg [.s 15 (.mv (.tmp 0)),
  .s 16 (.nck (.tmp 15)),
  .s 17 (.fa 2 (.tmp 16)),
  .s 18 (.ld (.tmp 17)),
  .s 19 (.mv (.tmp 1)),
  .s 20 (.mv (.tmp 1)),
  .s 21 (.sl 1 (.tmp 18) none (some (.tmp 19)) (some (.tmp 20))),
  .s 5 (.mv (.tmp 21))])
  (.seq (.reg [.s 22 (.mv (.tmp 0)),
   .s 23 (.mv (.tmp 0)),
   .s 24 (.nck (.tmp 23)),
   .s 25 (.fa 2 (.tmp 24)),
   .s 26 (.ld (.tmp 25)),
   .s 27 (.mv (.tmp 1)),
   .s 28 (.sl 1 (.tmp 26) (some (.tmp 27)) none none),
   .s 29 (.nck (.tmp 22)),
   .s 30 (.fa 2 (.tmp 29)),
   .e (.st 1 (.tmp 30) (.tmp 28))])
  (.seq (.reg [.s 31 (.mv (.tmp 5)),
   .s 4 (.mv (.tmp 31))])
   .ret))))), [.t 4]⟩
theorem c_wire_place_take : (compF Go.Proofs.Tryz.prog 133).map linF = some ir_wire_place_take := by kernel_rfl
def ir_wire_place_fail : FIR := ⟨8, (.reg [.s 2 (.mv (.tmp 0)),
 .s 3 (.mv (.tmp 0)),
 .s 4 (.nck (.tmp 2)),
 .s 5 (.fa 1 (.tmp 4)),
 .e (.st 1 (.tmp 5) (.const (.bool true))),
 .s 6 (.nck (.tmp 3)),
 .s 7 (.fa 2 (.tmp 6)),
 .e (.st 1 (.tmp 7) (.const (.slice none 0 0)))]), []⟩
theorem c_wire_place_fail : (compF Go.Proofs.Tryz.prog 134).map linF = some ir_wire_place_fail := by kernel_rfl
def ir_wire_Reader_Number : FIR := ⟨63, (.seq (.reg [.s 4 (.mv (.const (.int .i64 0)))])
 (.seq (.seq (.reg [.s 8 (.mv (.tmp 0)),
  .s 9 (.call 79 [(.tmp 8)]),
  .s 10 (.un .not (.tmp 9))])
  (.cnd (.tmp 10) (.seq (.reg [.s 4 (.mv (.const (.int .i64 0)))])
   .ret)
   .skip))
 (.seq (.reg [.s 5 (.mv (.const (.int .i64 0)))])
  (.seq (.seq (.reg [.s 6 (.mv (.const (.int .i64 0)))])
   (.blk 0 (.loop (.seq (.seq (.reg [.s 11 (.mv (.tmp 6)),
     .s 12 (.bin .lss (.tmp 11) (.const (.int .i64 63)))])
     (.cnd (.tmp 12) .skip
      (.exit 0)))
    (.seq (.blk 1 (.seq (.reg [.s 15 (.mv (.tmp 0)),
      .s 16 (.nck (.tmp 15)),
      .s 17 (.fa 0 (.tmp 16)),
      .s 18 (.call 133 [(.tmp 17), (.const (.int .i64 1))]),
      .s 7 (.mv (.tmp 18))])
      (.seq (.seq (.reg [.s 19 (.mv (.tmp 0)),
       .s 20 (.nck (.tmp 19)),
       .s 21 (.fa 0 (.tmp 20)),
       .s 22 (.fa 1 (.tmp 21)),
       .s 23 (.ld (.tmp 22))])
       (.cnd (.tmp 23) (.seq (.reg [.s 4 (.mv (.const (.int .i64 0)))])
        .ret)
        .skip))
      (.seq (.reg [.s 24 (.mv (.tmp 5)),
       .s 25 (.mv (.tmp 7)),
       .s 26 (.ia 1 (.tmp 25) (.const (.int .i64 0))),
       .s 27 (.ld (.tmp 26)),
       .s 28 (.bin .and (.tmp 27) (.const (.int .u8 127))),
       .s 29 (.cvi .i64 (.tmp 28)),
       .s 30 (.mv (.tmp 6)),
       .s 31 (.bin .shl (.tmp 29) (.tmp 30)),
       .s 32 (.bin .or (.tmp 24) (.tmp 31)),
       .s 5 (.mv (.tmp 32))])
       (.seq (.reg [.s 33 (.mv (.tmp 7)),
        .s 34 (.ia 1 (.tmp 33) (.const (.int .i64 0))),
        .s 35 (.ld (.tmp 34)),
        .s 36 (.bin .lss (.tmp 35) (.const (.int .u8 128)))])
       (.cnd (.tmp 36) (.seq (.seq (.reg [.s 37 (.mv (.tmp 6)),
          .s 38 (.bin .gtr (.tmp 37) (.const (.int .i64 0))),
          .s 39 (.mv (.tmp 38)),
          .g 40 39 true (.mv (.tmp 7)),
          .g 41 39 true (.ia 1 (.tmp 40) (.const (.int .i64 0))),
          .g 42 39 true (.ld (.tmp 41)),
          .g 43 39 true (.bin .eql (.tmp 42) (.const (.int .u8 0))),
          .s 44 (.pick (.tmp 39) (.tmp 43) (.const (.bool false))),
          .s 45 (.mv (.tmp 44)),
          .g 46 45 false (.mv (.tmp 5)),
          .g 47 45 false (.bin .gtr (.tmp 46) (.const (.int .i64 4611686018427387903))),
          .s 48 (.pick (.tmp 45) (.const (.bool true)) (.tmp 47)),
          .s 49 (.mv (.tmp 48)),
          .g 50 49 false (.mv (.tmp 5)),
          .g 51 49 false (.mv (.tmp 1)),
          .g 52 49 false (.bin .gtr (.tmp 50) (.tmp 51)),
          .s 53 (.pick (.tmp 49) (.const (.bool true)) (.tmp 52))])
         (.cnd (.tmp 53) (.seq (.reg [.s 54 (.mv (.tmp 0)),
           .s 55 (.nck (.tmp 54)),
           .s 56 (.fa 0 (.tmp 55)),
           .s 57 (.call 134 [(.tmp 56)])])
           (.seq (.reg [.s 4 (.mv (.const (.int .i64 0)))])
           .ret))
          .skip))
         (.seq (.reg [.s 58 (.mv (.tmp 5)),
          .s 4 (.mv (.tmp 58))])
         .ret))
        .skip))))))
     (.reg [.s 13 (.mv (.tmp 6)),
     .s 14 (.bin .add (.tmp 13) (.const (.int .i64 7))),
     .s 6 (.mv (.tmp 14))]))))))
  (.seq (.reg [.s 59 (.mv (.tmp 0)),
   .s 60 (.nck (.tmp 59)),
   .s 61 (.fa 0 (.tmp 60)),
   .s 62 (.call 134 [(.tmp 61)])])
   (.seq (.reg [.s 4 (.mv (.const (.int .i64 0)))])
   .ret)))))), [.t 4]⟩
theorem c_wire_Reader_Number : (compF Go.Proofs.Tryz.prog 74).map linF = some ir_wire_Reader_Number := by kernel_rfl
def ir_wire_Reader_Flag : FIR := ⟨30, (.seq (.reg [.s 2 (.mv (.const (.bool false)))])
 (.seq (.seq (.reg [.s 4 (.mv (.tmp 0)),
  .s 5 (.call 79 [(.tmp 4)]),
  .s 6 (.un .not (.tmp 5))])
  (.cnd (.tmp 6) (.seq (.reg [.s 2 (.mv (.const (.bool false)))])
   .ret)
   .skip))
 (.seq (.reg [.s 7 (.mv (.tmp 0)),
  .s 8 (.nck (.tmp 7)),
  .s 9 (.fa 0 (.tmp 8)),
  .s 10 (.call 133 [(.tmp 9), (.const (.int .i64 1))]),
  .s 3 (.mv (.tmp 10))])
  (.seq (.seq (.reg [.s 11 (.mv (.tmp 0)),
   .s 12 (.nck (.tmp 11)),
   .s 13 (.fa 0 (.tmp 12)),
   .s 14 (.fa 1 (.tmp 13)),
   .s 15 (.ld (.tmp 14)),
   .s 16 (.mv (.tmp 15)),
   .g 17 16 false (.mv (.tmp 3)),
   .g 18 16 false (.ia 1 (.tmp 17) (.const (.int .i64 0))),
   .g 19 16 false (.ld (.tmp 18)),
   .g 20 16 false (.bin .gtr (.tmp 19) (.const (.int .u8 1))),
   .s 21 (.pick (.tmp 16) (.const (.bool true)) (.tmp 20))])
   (.cnd (.tmp 21) (.seq (.reg [.s 22 (.mv (.tmp 0)),
     .s 23 (.nck (.tmp 22)),
     .s 24 (.fa 0 (.tmp 23)),
     .s 25 (.call 134 [(.tmp 24)])])
    (.seq (.reg [.s 2 (.mv (.const (.bool false)))])
     .ret))
    .skip))
  (.seq (.reg [.s 26 (.mv (.tmp 3)),
   .s 27 (.ia 1 (.tmp 26) (.const (.int .i64 0))),
   .s 28 (.ld (.tmp 27)),
   .s 29 (.bin .eql (.tmp 28) (.const (.int .u8 1))),
   .s 2 (.mv (.tmp 29))])
   .ret))))), [.t 2]⟩
theorem c_wire_Reader_Flag : (compF Go.Proofs.Tryz.prog 137).map linF = some ir_wire_Reader_Flag := by kernel_rfl
def ir_wire_Reader_Row : FIR := ⟨18, (.seq (.reg [.s 4 (.mv (.const (.slice none 0 0)))])
 (.seq (.reg [.s 6 (.mv (.tmp 0)),
  .s 7 (.mv (.tmp 1)),
  .s 8 (.call 74 [(.tmp 6), (.tmp 7)]),
  .s 5 (.mv (.tmp 8))])
 (.seq (.seq (.reg [.s 9 (.mv (.tmp 0)),
   .s 10 (.call 79 [(.tmp 9)]),
   .s 11 (.un .not (.tmp 10))])
  (.cnd (.tmp 11) (.seq (.reg [.s 4 (.mv (.const (.slice none 0 0)))])
    .ret)
   .skip))
  (.seq (.reg [.s 12 (.mv (.tmp 0)),
   .s 13 (.nck (.tmp 12)),
   .s 14 (.fa 0 (.tmp 13)),
   .s 15 (.mv (.tmp 5)),
   .s 16 (.call 133 [(.tmp 14), (.tmp 15)]),
   .s 17 (.call 67 [(.tmp 16)]),
   .s 4 (.mv (.tmp 17))])
  .ret)))), [.t 4]⟩
theorem c_wire_Reader_Row : (compF Go.Proofs.Tryz.prog 162).map linF = some ir_wire_Reader_Row := by kernel_rfl
def ir_wire_Reader_Text : FIR := ⟨9, (.seq (.reg [.s 4 (.mv (.const (.string .empty)))])
 (.seq (.reg [.s 5 (.mv (.tmp 0)),
  .s 6 (.mv (.tmp 1)),
  .s 7 (.call 162 [(.tmp 5), (.tmp 6)]),
  .s 8 (.cbs (.tmp 7)),
  .s 4 (.mv (.tmp 8))])
 .ret)), [.t 4]⟩
theorem c_wire_Reader_Text : (compF Go.Proofs.Tryz.prog 135).map linF = some ir_wire_Reader_Text := by kernel_rfl
def ir_wire_Reader_Left : FIR := ⟨12, (.seq (.reg [.s 2 (.mv (.const (.int .i64 0)))])
 (.seq (.seq (.reg [.s 3 (.mv (.tmp 0)),
  .s 4 (.call 79 [(.tmp 3)]),
  .s 5 (.un .not (.tmp 4))])
  (.cnd (.tmp 5) (.seq (.reg [.s 2 (.mv (.const (.int .i64 0)))])
   .ret)
   .skip))
 (.seq (.reg [.s 6 (.mv (.tmp 0)),
  .s 7 (.nck (.tmp 6)),
  .s 8 (.fa 0 (.tmp 7)),
  .s 9 (.fa 2 (.tmp 8)),
  .s 10 (.ld (.tmp 9)),
  .s 11 (.len (.tmp 10)),
  .s 2 (.mv (.tmp 11))])
  .ret))), [.t 2]⟩
theorem c_wire_Reader_Left : (compF Go.Proofs.Tryz.prog 32).map linF = some ir_wire_Reader_Left := by kernel_rfl
def ir_wire_Reader_End : FIR := ⟨29, (.seq (.reg [.s 2 (.mv (.const (.int .i64 0)))])
 (.seq (.blk 0 (.seq (.reg [.s 4 (.mv (.tmp 0)),
   .s 5 (.eqz .ptr false (.tmp 4) (.const (.pointer none))),
   .s 6 (.mv (.tmp 5)),
   .g 7 6 false (.mv (.tmp 0)),
   .g 8 6 false (.nck (.tmp 7)),
   .g 9 6 false (.fa 0 (.tmp 8)),
   .g 10 6 false (.fa 0 (.tmp 9)),
   .g 11 6 false (.ld (.tmp 10)),
   .g 12 6 false (.un .not (.tmp 11)),
   .s 13 (.pick (.tmp 6) (.const (.bool true)) (.tmp 12)),
   .s 3 (.mv (.tmp 13))])
  (.cnd (.tmp 3) (.seq (.reg [.s 2 (.mv (.const (.int .i64 1)))])
    .ret)
   (.seq (.reg [.s 15 (.mv (.tmp 0)),
    .s 16 (.nck (.tmp 15)),
    .s 17 (.fa 0 (.tmp 16)),
    .s 18 (.fa 1 (.tmp 17)),
    .s 19 (.ld (.tmp 18)),
    .s 20 (.mv (.tmp 19)),
    .g 21 20 false (.mv (.tmp 0)),
    .g 22 20 false (.nck (.tmp 21)),
    .g 23 20 false (.fa 0 (.tmp 22)),
    .g 24 20 false (.fa 2 (.tmp 23)),
    .g 25 20 false (.ld (.tmp 24)),
    .g 26 20 false (.len (.tmp 25)),
    .g 27 20 false (.bin .gtr (.tmp 26) (.const (.int .i64 0))),
    .s 28 (.pick (.tmp 20) (.const (.bool true)) (.tmp 27)),
    .s 14 (.mv (.tmp 28))])
    (.cnd (.tmp 14) (.seq (.reg [.s 2 (.mv (.const (.int .i64 4)))])
     .ret)
     .skip)))))
 (.seq (.reg [.s 2 (.mv (.const (.int .i64 0)))])
  .ret))), [.t 2]⟩
theorem c_wire_Reader_End : (compF Go.Proofs.Tryz.prog 36).map linF = some ir_wire_Reader_End := by kernel_rfl
end Go.WK
/-
 The texts in the small language of some loaded functions, each held against the loaded one by the kernel.
-/
namespace Go.WK
open Go
def ir_watershedkit_SameActs : FIR := ⟨26, (.seq (.reg [.s 4 (.mv (.const (.bool false)))])
 (.seq (.seq (.reg [.s 6 (.mv (.tmp 0)),
  .s 7 (.len (.tmp 6)),
  .s 8 (.mv (.tmp 1)),
  .s 9 (.len (.tmp 8)),
  .s 10 (.bin .neq (.tmp 7) (.tmp 9))])
  (.cnd (.tmp 10) (.seq (.reg [.s 4 (.mv (.const (.bool false)))])
   .ret)
   .skip))
 (.seq (.seq (.reg [.s 5 (.mv (.const (.int .i64 0)))])
  (.blk 0 (.loop (.seq (.seq (.reg [.s 11 (.mv (.tmp 5)),
     .s 12 (.mv (.tmp 0)),
     .s 13 (.len (.tmp 12)),
     .s 14 (.bin .lss (.tmp 11) (.tmp 13))])
    (.cnd (.tmp 14) .skip
     (.exit 0)))
    (.seq (.blk 1 (.seq (.reg [.s 17 (.mv (.tmp 0)),
      .s 18 (.mv (.tmp 5)),
      .s 19 (.ia 4 (.tmp 17) (.tmp 18)),
      .s 20 (.ldn 4 (.tmp 19)),
      .s 21 (.mv (.tmp 1)),
      .s 22 (.mv (.tmp 5)),
      .s 23 (.ia 4 (.tmp 21) (.tmp 22)),
      .s 24 (.ldn 4 (.tmp 23)),
      .s 25 (.eqs [.i, .s, .s, .i] true (.tmp 20) (.tmp 24))])
     (.cnd (.tmp 25) (.seq (.reg [.s 4 (.mv (.const (.bool false)))])
       .ret)
      .skip)))
    (.reg [.s 15 (.mv (.tmp 5)),
     .s 16 (.bin .add (.tmp 15) (.const (.int .i64 1))),
     .s 5 (.mv (.tmp 16))]))))))
  (.seq (.reg [.s 4 (.mv (.const (.bool true)))])
  .ret)))), [.t 4]⟩
theorem c_watershedkit_SameActs : (compF Go.Proofs.Tryz.prog 59).map linF = some ir_watershedkit_SameActs := by kernel_rfl
def ir_watershedkit_SameReads : FIR := ⟨26, (.seq (.reg [.s 4 (.mv (.const (.bool false)))])
 (.seq (.seq (.reg [.s 6 (.mv (.tmp 0)),
  .s 7 (.len (.tmp 6)),
  .s 8 (.mv (.tmp 1)),
  .s 9 (.len (.tmp 8)),
  .s 10 (.bin .neq (.tmp 7) (.tmp 9))])
  (.cnd (.tmp 10) (.seq (.reg [.s 4 (.mv (.const (.bool false)))])
   .ret)
   .skip))
 (.seq (.seq (.reg [.s 5 (.mv (.const (.int .i64 0)))])
  (.blk 0 (.loop (.seq (.seq (.reg [.s 11 (.mv (.tmp 5)),
     .s 12 (.mv (.tmp 0)),
     .s 13 (.len (.tmp 12)),
     .s 14 (.bin .lss (.tmp 11) (.tmp 13))])
    (.cnd (.tmp 14) .skip
     (.exit 0)))
    (.seq (.blk 1 (.seq (.reg [.s 17 (.mv (.tmp 0)),
      .s 18 (.mv (.tmp 5)),
      .s 19 (.ia 3 (.tmp 17) (.tmp 18)),
      .s 20 (.ldn 3 (.tmp 19)),
      .s 21 (.mv (.tmp 1)),
      .s 22 (.mv (.tmp 5)),
      .s 23 (.ia 3 (.tmp 21) (.tmp 22)),
      .s 24 (.ldn 3 (.tmp 23)),
      .s 25 (.eqs [.s, .b, .s] true (.tmp 20) (.tmp 24))])
     (.cnd (.tmp 25) (.seq (.reg [.s 4 (.mv (.const (.bool false)))])
       .ret)
      .skip)))
    (.reg [.s 15 (.mv (.tmp 5)),
     .s 16 (.bin .add (.tmp 15) (.const (.int .i64 1))),
     .s 5 (.mv (.tmp 16))]))))))
  (.seq (.reg [.s 4 (.mv (.const (.bool true)))])
  .ret)))), [.t 4]⟩
theorem c_watershedkit_SameReads : (compF Go.Proofs.Tryz.prog 60).map linF = some ir_watershedkit_SameReads := by kernel_rfl
def ir_watershedkit_SameHold : FIR := ⟨45, (.seq (.reg [.s 2 (.box 35 (.tmp 0)),
 .s 3 (.box 35 (.tmp 1)),
 .s 4 (.mv (.const (.bool false)))])
 (.seq (.reg [.s 5 (.fa 0 (.tmp 2)),
  .s 6 (.ld (.tmp 5)),
  .s 7 (.fa 0 (.tmp 3)),
  .s 8 (.ld (.tmp 7)),
  .s 9 (.bin .eql (.tmp 6) (.tmp 8)),
  .s 10 (.mv (.tmp 9)),
  .g 11 10 true (.fa 1 (.tmp 2)),
  .g 12 10 true (.ldn 2 (.tmp 11)),
  .g 13 10 true (.fa 1 (.tmp 3)),
  .g 14 10 true (.ldn 2 (.tmp 13)),
  .g 15 10 true (.eqs [.i, .i] false (.tmp 12) (.tmp 14)),
  .s 16 (.pick (.tmp 10) (.tmp 15) (.const (.bool false))),
  .s 17 (.mv (.tmp 16)),
  .g 18 17 true (.fa 3 (.tmp 2)),
  .g 19 17 true (.ld (.tmp 18)),
  .g 20 17 true (.fa 3 (.tmp 3)),
  .g 21 17 true (.ld (.tmp 20)),
  .g 22 17 true (.call 59 [(.tmp 19), (.tmp 21)]),
  .s 23 (.pick (.tmp 17) (.tmp 22) (.const (.bool false))),
  .s 24 (.mv (.tmp 23)),
  .g 25 24 true (.fa 4 (.tmp 2)),
  .g 26 24 true (.ld (.tmp 25)),
  .g 27 24 true (.fa 4 (.tmp 3)),
  .g 28 24 true (.ld (.tmp 27)),
  .g 29 24 true (.call 60 [(.tmp 26), (.tmp 28)]),
  .s 30 (.pick (.tmp 24) (.tmp 29) (.const (.bool false))),
  .s 31 (.mv (.tmp 30)),
  .g 32 31 true (.fa 5 (.tmp 2)),
  .g 33 31 true (.ld (.tmp 32)),
  .g 34 31 true (.fa 5 (.tmp 3)),
  .g 35 31 true (.ld (.tmp 34)),
  .g 36 31 true (.eqb false (.tmp 33) (.tmp 35)),
  .s 37 (.pick (.tmp 31) (.tmp 36) (.const (.bool false))),
  .s 38 (.mv (.tmp 37)),
  .g 39 38 true (.fa 6 (.tmp 2)),
  .g 40 38 true (.ld (.tmp 39)),
  .g 41 38 true (.fa 6 (.tmp 3)),
  .g 42 38 true (.ld (.tmp 41)),
  .g 43 38 true (.bin .eql (.tmp 40) (.tmp 42)),
  .s 44 (.pick (.tmp 38) (.tmp 43) (.const (.bool false))),
  .s 4 (.mv (.tmp 44))])
 .ret)), [.t 4]⟩
theorem c_watershedkit_SameHold : (compF Go.Proofs.Tryz.prog 18).map linF = some ir_watershedkit_SameHold := by kernel_rfl
def ir_watershedkit_HoldsOf : FIR := ⟨87, (.seq (.reg [.s 4 (.mv (.const (.int .i64 0)))])
 (.seq (.reg [.s 5 (.mv (.const (.int .i64 0)))])
 (.seq (.seq (.reg [.s 6 (.mv (.const (.int .i64 0)))])
  (.blk 0 (.loop (.seq (.seq (.reg [.s 8 (.mv (.tmp 6)),
     .s 9 (.mv (.tmp 0)),
     .s 10 (.len (.tmp 9)),
     .s 11 (.bin .lss (.tmp 8) (.tmp 10)),
     .s 12 (.mv (.tmp 11)),
     .g 13 12 true (.mv (.tmp 5)),
     .g 14 12 true (.mv (.tmp 1)),
     .g 15 12 true (.bin .leq (.tmp 13) (.tmp 14)),
     .s 16 (.pick (.tmp 12) (.tmp 15) (.const (.bool false)))])
    (.cnd (.tmp 16) .skip
     (.exit 0)))
    (.seq (.blk 1 (.seq (.lin [(false, .s 19 (.mv (.tmp 5))),
      (false, .s 20 (.bin .add (.tmp 19) (.const (.int .i64 1)))),
      (false, .s 21 (.mv (.tmp 0))),
      (false, .s 22 (.mv (.tmp 6))),
      (false, .s 23 (.ia 7 (.tmp 21) (.tmp 22))),
      (false, .s 24 (.fa 0 (.tmp 23))),
      (false, .s 25 (.ld (.tmp 24))),
      (false, .s 26 (.slen (.tmp 25))),
      (false, .s 27 (.bin .quo (.tmp 26) (.const (.int .i64 8)))),
      (false, .s 28 (.bin .add (.tmp 20) (.tmp 27))),
      (false, .s 29 (.mv (.tmp 0))),
      (false, .s 30 (.mv (.tmp 6))),
      (false, .s 31 (.ia 7 (.tmp 29) (.tmp 30))),
      (false, .s 32 (.fa 6 (.tmp 31))),
      (false, .s 33 (.ld (.tmp 32))),
      (false, .s 34 (.slen (.tmp 33))),
      (false, .s 35 (.bin .quo (.tmp 34) (.const (.int .i64 8)))),
      (false, .s 36 (.bin .add (.tmp 28) (.tmp 35))),
      (false, .s 37 (.mv (.tmp 0))),
      (false, .s 38 (.mv (.tmp 6))),
      (false, .s 39 (.ia 7 (.tmp 37) (.tmp 38))),
      (false, .s 40 (.fa 3 (.tmp 39))),
      (false, .s 41 (.ld (.tmp 40))),
      (false, .s 42 (.mv (.tmp 1))),
      (true, .s 43 (.call 47 [(.tmp 41), (.tmp 42)])),
      (false, .s 44 (.bin .add (.tmp 36) (.tmp 43))),
      (false, .s 5 (.mv (.tmp 44)))])
     (.seq (.reg [.s 7 (.mv (.const (.int .i64 0)))])
      (.blk 2 (.loop (.seq (.seq (.reg [.s 45 (.mv (.tmp 7)),
        .s 46 (.mv (.tmp 0)),
        .s 47 (.mv (.tmp 6)),
        .s 48 (.ia 7 (.tmp 46) (.tmp 47)),
        .s 49 (.fa 4 (.tmp 48)),
        .s 50 (.ld (.tmp 49)),
        .s 51 (.len (.tmp 50)),
        .s 52 (.bin .lss (.tmp 45) (.tmp 51)),
        .s 53 (.mv (.tmp 52)),
        .g 54 53 true (.mv (.tmp 5)),
        .g 55 53 true (.mv (.tmp 1)),
        .g 56 53 true (.bin .leq (.tmp 54) (.tmp 55)),
        .s 57 (.pick (.tmp 53) (.tmp 56) (.const (.bool false)))])
        (.cnd (.tmp 57) .skip
         (.exit 2)))
       (.seq (.blk 3 (.reg [.s 60 (.mv (.tmp 5)),
         .s 61 (.bin .add (.tmp 60) (.const (.int .i64 1))),
         .s 62 (.mv (.tmp 0)),
         .s 63 (.mv (.tmp 6)),
         .s 64 (.ia 7 (.tmp 62) (.tmp 63)),
         .s 65 (.fa 4 (.tmp 64)),
         .s 66 (.ld (.tmp 65)),
         .s 67 (.mv (.tmp 7)),
         .s 68 (.ia 3 (.tmp 66) (.tmp 67)),
         .s 69 (.fa 0 (.tmp 68)),
         .s 70 (.ld (.tmp 69)),
         .s 71 (.slen (.tmp 70)),
         .s 72 (.bin .quo (.tmp 71) (.const (.int .i64 8))),
         .s 73 (.bin .add (.tmp 61) (.tmp 72)),
         .s 74 (.mv (.tmp 0)),
         .s 75 (.mv (.tmp 6)),
         .s 76 (.ia 7 (.tmp 74) (.tmp 75)),
         .s 77 (.fa 4 (.tmp 76)),
         .s 78 (.ld (.tmp 77)),
         .s 79 (.mv (.tmp 7)),
         .s 80 (.ia 3 (.tmp 78) (.tmp 79)),
         .s 81 (.fa 2 (.tmp 80)),
         .s 82 (.ld (.tmp 81)),
         .s 83 (.slen (.tmp 82)),
         .s 84 (.bin .quo (.tmp 83) (.const (.int .i64 8))),
         .s 85 (.bin .add (.tmp 73) (.tmp 84)),
         .s 5 (.mv (.tmp 85))]))
        (.reg [.s 58 (.mv (.tmp 7)),
        .s 59 (.bin .add (.tmp 58) (.const (.int .i64 1))),
        .s 7 (.mv (.tmp 59))]))))))))
    (.reg [.s 17 (.mv (.tmp 6)),
     .s 18 (.bin .add (.tmp 17) (.const (.int .i64 1))),
     .s 6 (.mv (.tmp 18))]))))))
  (.seq (.reg [.s 86 (.mv (.tmp 5)),
   .s 4 (.mv (.tmp 86))])
  .ret)))), [.t 4]⟩
theorem c_watershedkit_HoldsOf : (compF Go.Proofs.Tryz.prog 10).map linF = some ir_watershedkit_HoldsOf := by kernel_rfl
def ir_watershedkit_ActsOf : FIR := ⟨37, (.seq (.reg [.s 4 (.mv (.const (.int .i64 0)))])
 (.seq (.reg [.s 5 (.mv (.const (.int .i64 0)))])
 (.seq (.seq (.reg [.s 6 (.mv (.const (.int .i64 0)))])
  (.blk 0 (.loop (.seq (.seq (.reg [.s 7 (.mv (.tmp 6)),
     .s 8 (.mv (.tmp 0)),
     .s 9 (.len (.tmp 8)),
     .s 10 (.bin .lss (.tmp 7) (.tmp 9)),
     .s 11 (.mv (.tmp 10)),
     .g 12 11 true (.mv (.tmp 5)),
     .g 13 11 true (.mv (.tmp 1)),
     .g 14 11 true (.bin .leq (.tmp 12) (.tmp 13)),
     .s 15 (.pick (.tmp 11) (.tmp 14) (.const (.bool false)))])
    (.cnd (.tmp 15) .skip
     (.exit 0)))
    (.seq (.blk 1 (.reg [.s 18 (.mv (.tmp 5)),
     .s 19 (.bin .add (.tmp 18) (.const (.int .i64 1))),
     .s 20 (.mv (.tmp 0)),
     .s 21 (.mv (.tmp 6)),
     .s 22 (.ia 4 (.tmp 20) (.tmp 21)),
     .s 23 (.fa 1 (.tmp 22)),
     .s 24 (.ld (.tmp 23)),
     .s 25 (.slen (.tmp 24)),
     .s 26 (.bin .quo (.tmp 25) (.const (.int .i64 8))),
     .s 27 (.bin .add (.tmp 19) (.tmp 26)),
     .s 28 (.mv (.tmp 0)),
     .s 29 (.mv (.tmp 6)),
     .s 30 (.ia 4 (.tmp 28) (.tmp 29)),
     .s 31 (.fa 2 (.tmp 30)),
     .s 32 (.ld (.tmp 31)),
     .s 33 (.slen (.tmp 32)),
     .s 34 (.bin .quo (.tmp 33) (.const (.int .i64 8))),
     .s 35 (.bin .add (.tmp 27) (.tmp 34)),
     .s 5 (.mv (.tmp 35))]))
    (.reg [.s 16 (.mv (.tmp 6)),
     .s 17 (.bin .add (.tmp 16) (.const (.int .i64 1))),
     .s 6 (.mv (.tmp 17))]))))))
  (.seq (.reg [.s 36 (.mv (.tmp 5)),
   .s 4 (.mv (.tmp 36))])
  .ret)))), [.t 4]⟩
theorem c_watershedkit_ActsOf : (compF Go.Proofs.Tryz.prog 47).map linF = some ir_watershedkit_ActsOf := by kernel_rfl
def ir_act_Name : FIR := ⟨21, (.seq (.reg [.s 1 (.box 24 (.tmp 0)),
 .s 2 (.mv (.const (.bool false)))])
 (.seq (.reg [.s 3 (.fa 0 (.tmp 1)),
  .s 4 (.ld (.tmp 3)),
  .s 5 (.bin .geq (.tmp 4) (.const (.int .i64 1))),
  .s 6 (.mv (.tmp 5)),
  .g 7 6 true (.fa 0 (.tmp 1)),
  .g 8 6 true (.ld (.tmp 7)),
  .g 9 6 true (.bin .leq (.tmp 8) (.const (.int .i64 8))),
  .s 10 (.pick (.tmp 6) (.tmp 9) (.const (.bool false))),
  .s 11 (.mv (.tmp 10)),
  .g 12 11 true (.fa 1 (.tmp 1)),
  .g 13 11 true (.ld (.tmp 12)),
  .g 14 11 true (.bin .geq (.tmp 13) (.const (.int .i64 1))),
  .s 15 (.pick (.tmp 11) (.tmp 14) (.const (.bool false))),
  .s 16 (.mv (.tmp 15)),
  .g 17 16 true (.fa 1 (.tmp 1)),
  .g 18 16 true (.ld (.tmp 17)),
  .g 19 16 true (.bin .leq (.tmp 18) (.const (.int .i64 1073741824))),
  .s 20 (.pick (.tmp 16) (.tmp 19) (.const (.bool false))),
  .s 2 (.mv (.tmp 20))])
 .ret)), [.t 2]⟩
theorem c_act_Name : (compF Go.Proofs.Tryz.prog 127).map linF = some ir_act_Name := by kernel_rfl
def ir_act_cut : FIR := ⟨6, (.seq (.reg [.s 2 (.mv (.const (.int .i64 0)))])
 (.seq (.reg [.s 3 (.mv (.tmp 0)),
  .s 4 (.mn [(.tmp 3), (.const (.int .i64 1073741824))]),
  .s 5 (.mx [(.tmp 4), (.const (.int .i64 (-1073741824)))]),
  .s 2 (.mv (.tmp 5))])
 .ret)), [.t 2]⟩
theorem c_act_cut : (compF Go.Proofs.Tryz.prog 190).map linF = some ir_act_cut := by kernel_rfl
def ir_slices_IndexFunc_Hold : FIR := ⟨19, (.seq (.reg [.s 4 (.mv (.const (.int .i64 0)))])
 (.seq (.seq (.reg [.s 6 (.mv (.tmp 0)),
  .s 7 (.len (.tmp 6)),
  .s 8 (.mv (.const (.int .i64 0)))])
  (.blk 0 (.loop (.seq (.reg [.s 9 (.bin .lss (.tmp 8) (.tmp 7))])
   (.seq (.cnd (.tmp 9) .skip
     (.exit 0))
    (.seq (.blk 1 (.seq (.reg [.s 10 (.mv (.tmp 8)),
      .s 5 (.mv (.tmp 10))])
     (.seq (.reg [.s 11 (.mv (.tmp 1)),
      .s 12 (.mv (.tmp 0)),
      .s 13 (.mv (.tmp 5)),
      .s 14 (.ia 7 (.tmp 12) (.tmp 13)),
      .s 15 (.ldn 7 (.tmp 14)),
      .s 16 (.callv (.tmp 11) [(.tmp 15)])])
      (.cnd (.tmp 16) (.seq (.reg [.s 17 (.mv (.tmp 5)),
        .s 4 (.mv (.tmp 17))])
       .ret)
       .skip))))
    (.reg [.s 18 (.bin .add (.tmp 8) (.const (.int .i64 1))),
     .s 8 (.mv (.tmp 18))])))))))
 (.seq (.reg [.s 4 (.mv (.const (.int .i64 (-1))))])
  .ret))), [.t 4]⟩
theorem c_slices_IndexFunc_Hold : (compF Go.Proofs.Tryz.prog 124).map linF = some ir_slices_IndexFunc_Hold := by kernel_rfl
def ir_slices_ContainsFunc_Read : FIR := ⟨9, (.seq (.reg [.s 4 (.mv (.const (.bool false)))])
 (.seq (.reg [.s 5 (.mv (.tmp 0)),
  .s 6 (.mv (.tmp 1)),
  .s 7 (.call 157 [(.tmp 5), (.tmp 6)]),
  .s 8 (.bin .geq (.tmp 7) (.const (.int .i64 0))),
  .s 4 (.mv (.tmp 8))])
 .ret)), [.t 4]⟩
theorem c_slices_ContainsFunc_Read : (compF Go.Proofs.Tryz.prog 125).map linF = some ir_slices_ContainsFunc_Read := by kernel_rfl
def ir_slices_IndexFunc_Read : FIR := ⟨19, (.seq (.reg [.s 4 (.mv (.const (.int .i64 0)))])
 (.seq (.seq (.reg [.s 6 (.mv (.tmp 0)),
  .s 7 (.len (.tmp 6)),
  .s 8 (.mv (.const (.int .i64 0)))])
  (.blk 0 (.loop (.seq (.reg [.s 9 (.bin .lss (.tmp 8) (.tmp 7))])
   (.seq (.cnd (.tmp 9) .skip
     (.exit 0))
    (.seq (.blk 1 (.seq (.reg [.s 10 (.mv (.tmp 8)),
      .s 5 (.mv (.tmp 10))])
     (.seq (.reg [.s 11 (.mv (.tmp 1)),
      .s 12 (.mv (.tmp 0)),
      .s 13 (.mv (.tmp 5)),
      .s 14 (.ia 3 (.tmp 12) (.tmp 13)),
      .s 15 (.ldn 3 (.tmp 14)),
      .s 16 (.callv (.tmp 11) [(.tmp 15)])])
      (.cnd (.tmp 16) (.seq (.reg [.s 17 (.mv (.tmp 5)),
        .s 4 (.mv (.tmp 17))])
       .ret)
       .skip))))
    (.reg [.s 18 (.bin .add (.tmp 8) (.const (.int .i64 1))),
     .s 8 (.mv (.tmp 18))])))))))
 (.seq (.reg [.s 4 (.mv (.const (.int .i64 (-1))))])
  .ret))), [.t 4]⟩
theorem c_slices_IndexFunc_Read : (compF Go.Proofs.Tryz.prog 157).map linF = some ir_slices_IndexFunc_Read := by kernel_rfl
def ir_slices_ContainsFunc_Act : FIR := ⟨9, (.seq (.reg [.s 4 (.mv (.const (.bool false)))])
 (.seq (.reg [.s 5 (.mv (.tmp 0)),
  .s 6 (.mv (.tmp 1)),
  .s 7 (.call 188 [(.tmp 5), (.tmp 6)]),
  .s 8 (.bin .geq (.tmp 7) (.const (.int .i64 0))),
  .s 4 (.mv (.tmp 8))])
 .ret)), [.t 4]⟩
theorem c_slices_ContainsFunc_Act : (compF Go.Proofs.Tryz.prog 158).map linF = some ir_slices_ContainsFunc_Act := by kernel_rfl
def ir_slices_IndexFunc_Act : FIR := ⟨19, (.seq (.reg [.s 4 (.mv (.const (.int .i64 0)))])
 (.seq (.seq (.reg [.s 6 (.mv (.tmp 0)),
  .s 7 (.len (.tmp 6)),
  .s 8 (.mv (.const (.int .i64 0)))])
  (.blk 0 (.loop (.seq (.reg [.s 9 (.bin .lss (.tmp 8) (.tmp 7))])
   (.seq (.cnd (.tmp 9) .skip
     (.exit 0))
    (.seq (.blk 1 (.seq (.reg [.s 10 (.mv (.tmp 8)),
      .s 5 (.mv (.tmp 10))])
     (.seq (.reg [.s 11 (.mv (.tmp 1)),
      .s 12 (.mv (.tmp 0)),
      .s 13 (.mv (.tmp 5)),
      .s 14 (.ia 4 (.tmp 12) (.tmp 13)),
      .s 15 (.ldn 4 (.tmp 14)),
      .s 16 (.callv (.tmp 11) [(.tmp 15)])])
      (.cnd (.tmp 16) (.seq (.reg [.s 17 (.mv (.tmp 5)),
        .s 4 (.mv (.tmp 17))])
       .ret)
       .skip))))
    (.reg [.s 18 (.bin .add (.tmp 8) (.const (.int .i64 1))),
     .s 8 (.mv (.tmp 18))])))))))
 (.seq (.reg [.s 4 (.mv (.const (.int .i64 (-1))))])
  .ret))), [.t 4]⟩
theorem c_slices_IndexFunc_Act : (compF Go.Proofs.Tryz.prog 188).map linF = some ir_slices_IndexFunc_Act := by kernel_rfl
def ir_slices_ContainsFunc_Hold : FIR := ⟨9, (.seq (.reg [.s 4 (.mv (.const (.bool false)))])
 (.seq (.reg [.s 5 (.mv (.tmp 0)),
  .s 6 (.mv (.tmp 1)),
  .s 7 (.call 124 [(.tmp 5), (.tmp 6)]),
  .s 8 (.bin .geq (.tmp 7) (.const (.int .i64 0))),
  .s 4 (.mv (.tmp 8))])
 .ret)), [.t 4]⟩
theorem c_slices_ContainsFunc_Hold : (compF Go.Proofs.Tryz.prog 69).map linF = some ir_slices_ContainsFunc_Hold := by kernel_rfl
def ir_holds_right_1 : FIR := ⟨25, (.seq (.reg [.s 2 (.box 100 (.tmp 0)),
 .s 3 (.mv (.const (.bool false)))])
 (.seq (.reg [.s 4 (.fa 0 (.tmp 2)),
  .s 5 (.ld (.tmp 4)),
  .s 6 (.fa 0 (.tmp 1)),
  .s 7 (.ld (.tmp 6)),
  .s 8 (.bin .neq (.tmp 5) (.tmp 7)),
  .s 9 (.mv (.tmp 8)),
  .g 10 9 false (.fa 2 (.tmp 2)),
  .g 11 9 false (.ld (.tmp 10)),
  .g 12 9 false (.slen (.tmp 11)),
  .g 13 9 false (.bin .gtr (.tmp 12) (.const (.int .i64 20))),
  .s 14 (.pick (.tmp 9) (.const (.bool true)) (.tmp 13)),
  .s 15 (.mv (.tmp 14)),
  .g 16 15 false (.fa 1 (.tmp 2)),
  .g 17 15 false (.ld (.tmp 16)),
  .g 18 15 false (.un .not (.tmp 17)),
  .g 19 15 false (.mv (.tmp 18)),
  .g 20 19 true (.fa 2 (.tmp 2)),
  .g 21 19 true (.ld (.tmp 20)),
  .g 22 19 true (.bin .neq (.tmp 21) (.const (.string .empty))),
  .g 23 15 false (.pick (.tmp 19) (.tmp 22) (.const (.bool false))),
  .s 24 (.pick (.tmp 15) (.const (.bool true)) (.tmp 23)),
  .s 3 (.mv (.tmp 24))])
 .ret)), [.t 3]⟩
theorem c_holds_right_1 : (compF Go.Proofs.Tryz.prog 126).map linF = some ir_holds_right_1 := by kernel_rfl
end Go.WK
/-
 Sameness; the first that is so.
-/
namespace Go.WK
open Go Go.Proofs

def fIdx {α : Type} (p : α → Bool) (l : List α) : Int := match l.findIdx? p with | some i => i | none => -1
theorem fIdx_none {α : Type} {p : α → Bool} {l : List α} (h : ∀ j (hj : j < l.length), p l[j] = false) : fIdx p l = -1 := by
 unfold fIdx
 have : l.findIdx? p = none := by
  rw [List.findIdx?_eq_none_iff]
  intro x hx
  obtain ⟨j, hj, rfl⟩ := List.getElem_of_mem hx
  exact h j hj
 rw [this]
theorem fIdx_some {α : Type} {p : α → Bool} {l : List α} {i : Nat} (hi : i < l.length) (h : ∀ j (hj : j < l.length), j < i → p l[j] = false) (hp : p l[i] = true) : fIdx p l = i := by
 unfold fIdx
 have : l.findIdx? p = some i := by
  rw [List.findIdx?_eq_some_iff_getElem]
  exact ⟨hi, hp, fun j hji => by simpa using h j (by omega) hji⟩
 rw [this]
theorem fIdx_nneg {α : Type} (p : α → Bool) (l : List α) : decide ((0 : Int) ≤ fIdx p l) = l.any p := by
 unfold fIdx
 cases h : l.findIdx? p with
 | none =>
  rw [List.findIdx?_eq_none_iff] at h
  have : l.any p = false := by rw [List.any_eq_false]; intro x hx; simp [h x hx]
  rw [this]; rfl
 | some i =>
  obtain ⟨hi, hp, _⟩ := List.findIdx?_eq_some_iff_getElem.1 h
  have : l.any p = true := List.any_eq_true.2 ⟨_, List.getElem_mem hi, hp⟩
  rw [this]; simp

/-- A function value answers p at the list's elements, whatever has been added to the heap. -/
def FnOn {α : Type} (P : Program) (H : Hp) (El : List Value → α → Prop) (v : Value) (p : α → Bool) (l : List α) : Prop :=
 ∃ f first cap, v = .func (.func f) first cap ∧ ∀ H', Ext H H' → ∀ a, a ∈ l → ∀ cs, El cs a → Cl P f (first.toList ++ [.agg cs.toArray] ++ cap.toList) H' fun r H'' => r = .bool (p a) ∧ Ext H' H''

theorem SameActs_cl {S S' : Nat → Prop} {H : Hp} {v u : Value} {l m : List Ac} (hv : AcSl S H v l) (hu : AcSl S' H u m) : Cl Tryz.prog 59 [v, u] H fun r H' => r = .bool (decide (l = m)) ∧ H' = H := by
 refine cl_of mixed c_watershedkit_SameActs (Nat.le_of_ble_eq_true rfl) ?_
 simp only [fwp, ir_watershedkit_SameActs, argF, Nat.reduceAdd]
 obtain ⟨a, c, rfl, hc, hl, hel⟩ := SlP.open hv
 obtain ⟨a', c', rfl, hc', hl', hel'⟩ := SlP.open hu
 clear hv hu
 refine w_reg fun K hK => ?_; simp (disch := omega) only [↓wD, wU, simprocAttr]; refine hK _ _ ?_; clear hK K
 refine w_seq (w_seq ?_)
 by_cases hlen : l.length = m.length
 ·refine w_reg fun K hK => ?_; simp (disch := omega) only [↓wD, wU, simprocAttr, hlen]; refine hK _ _ ?_; clear hK K
  refine wf ?_
  refine w_skip ?_
  (with_reducible repeat first | apply q_n | apply q_e | apply q_r | apply bq_n | apply bq_e | apply bq_r | apply bq_o rfl)
  refine w_seq (w_seq ?_)
  refine w_reg fun K hK => ?_; simp (disch := omega) only [↓wD, wU, simprocAttr]; refine hK _ _ ?_; clear hK K
  refine w_blk (w_loop (fun n f H' => H' = H ∧ f 0 = .slice a l.length c ∧ f 1 = .slice a' m.length c' ∧ ∃ (i : Nat), f 5 = .int .i64 i ∧ i ≤ l.length ∧ (∀ j (hj : j < l.length) (hm : j < m.length), j < i → l[j] = m[j]) ∧ n = l.length - i) _ ⟨rfl, by simp only [wL, Nat.reduceBEq, hlen], by simp only [wL, Nat.reduceBEq], 0, rfl, Nat.zero_le _, fun j hj hm h => by omega, rfl⟩ ?_)
  rintro n f H' ⟨rfl, f0, f1, i, f5, hi, hsame, rfl⟩
  refine w_seq (w_seq ?_)
  by_cases hlt : i < l.length
  ·have hlt' : i < m.length := by omega
   obtain ⟨b, o, rfl, hS, cs, hcs, e, hk, hn, hs1, hs2⟩ := hel i hlt
   obtain ⟨b', o', rfl, hS', cs', hcs', e', hk', hn', hs1', hs2'⟩ := hel' i hlt'
   subst e e'
   refine w_reg fun K hK => ?_; simp (disch := omega) only [↓wD, wU, simprocAttr, f0, f5, hlt]; refine hK _ _ ?_; clear hK K
   refine wt ?_
   refine w_skip ?_
   (with_reducible repeat first | apply q_n | apply q_e | apply q_r | apply bq_n | apply bq_e | apply bq_r | apply bq_o rfl)
   refine w_seq (w_blk ?_)
   by_cases he : l[i] = m[i]
   ·refine w_reg fun K hK => ?_; simp (disch := omega) only [↓wD, wU, simprocAttr, f0, f1, f5, hlt, hlt', hcs, hcs', leavesEq, leafEq, he]; refine hK _ _ ?_; clear hK K
    refine wf ?_
    refine w_skip ?_
    (with_reducible repeat first | apply q_n | apply q_e | apply q_r | apply bq_n | apply bq_e | apply bq_r | apply bq_o rfl)
    refine w_reg1 fun K hK => ?_; simp (disch := omega) only [↓wD, wU, simprocAttr, f5]; refine hK _ _ ?_; clear hK K
    (with_reducible repeat first | apply q_n | apply q_e | apply q_r | apply bq_n | apply bq_e | apply bq_r | apply bq_o rfl)
    refine ⟨l.length - (i + 1), by omega, rfl, (by simp only [wL, Nat.reduceBEq, f0]), (by simp only [wL, Nat.reduceBEq, f1]), i + 1, (by simp only [wL, Nat.reduceBEq]), by omega, fun j hj hm h => ?_, rfl⟩
    by_cases hji : j = i
    ·subst hji; exact he
    ·exact hsame j hj hm (by omega)
   ·have hne : (decide (l[i].kind = m[i].kind) && (decide (l[i].key = m[i].key) && (decide (l[i].value = m[i].value) && decide (l[i].num = m[i].num)))) = false := by
     cases h : (decide (l[i].kind = m[i].kind) && (decide (l[i].key = m[i].key) && (decide (l[i].value = m[i].value) && decide (l[i].num = m[i].num)))) with
     | false => rfl
     | true =>
      simp only [Bool.and_eq_true, decide_eq_true_eq] at h
      exact absurd (by cases hl1 : l[i]; cases hm1 : m[i]; simp_all) he
    refine w_reg fun K hK => ?_; simp (disch := omega) only [↓wD, wU, simprocAttr, f0, f1, f5, hlt, hlt', hcs, hcs', leavesEq, leafEq, hne]; refine hK _ _ ?_; clear hK K
    refine wt ?_
    refine w_reg fun K hK => ?_; simp (disch := omega) only [↓wD, wU, simprocAttr]; refine hK _ _ ?_; clear hK K
    refine w_ret ?_; (with_reducible repeat first | apply q_n | apply q_e | apply q_r | apply bq_n | apply bq_e | apply bq_r | apply bq_o rfl); refine ret1 (by (try simp only [wL, Nat.reduceBEq]); rfl) ?_
    refine ⟨?_, rfl⟩
    have : ¬ l = m := fun e => he (by subst e; rfl)
    simp [this]
  ·refine w_reg fun K hK => ?_; simp (disch := omega) only [↓wD, wU, simprocAttr, f0, f5, hlt]; refine hK _ _ ?_; clear hK K
   refine wf ?_
   refine w_exit ?_
   (with_reducible repeat first | apply q_n | apply q_e | apply q_r | apply bq_n | apply bq_e | apply bq_r | apply bq_o rfl)
   refine w_reg fun K hK => ?_; simp (disch := omega) only [↓wD, wU, simprocAttr]; refine hK _ _ ?_; clear hK K
   refine w_ret ?_; (with_reducible repeat first | apply q_n | apply q_e | apply q_r | apply bq_n | apply bq_e | apply bq_r | apply bq_o rfl); refine ret1 (by (try simp only [wL, Nat.reduceBEq]); rfl) ?_
   refine ⟨?_, rfl⟩
   have : l = m := List.ext_getElem hlen fun j h1 h2 => hsame j h1 h2 (by omega)
   simp [this]
 ·refine w_reg fun K hK => ?_; simp (disch := omega) only [↓wD, wU, simprocAttr, hlen]; refine hK _ _ ?_; clear hK K
  refine wt ?_
  refine w_reg fun K hK => ?_; simp (disch := omega) only [↓wD, wU, simprocAttr]; refine hK _ _ ?_; clear hK K
  refine w_ret ?_; (with_reducible repeat first | apply q_n | apply q_e | apply q_r | apply bq_n | apply bq_e | apply bq_r | apply bq_o rfl); refine ret1 (by (try simp only [wL, Nat.reduceBEq]); rfl) ?_
  refine ⟨?_, rfl⟩
  have : ¬ l = m := fun e => hlen (by rw [e])
  simp [this]
theorem SameReads_cl {S S' : Nat → Prop} {H : Hp} {v u : Value} {l m : List Rd} (hv : RdSl S H v l) (hu : RdSl S' H u m) : Cl Tryz.prog 60 [v, u] H fun r H' => r = .bool (decide (l = m)) ∧ H' = H := by
 refine cl_of mixed c_watershedkit_SameReads (Nat.le_of_ble_eq_true rfl) ?_
 simp only [fwp, ir_watershedkit_SameReads, argF, Nat.reduceAdd]
 obtain ⟨a, c, rfl, hc, hl, hel⟩ := SlP.open hv
 obtain ⟨a', c', rfl, hc', hl', hel'⟩ := SlP.open hu
 clear hv hu
 refine w_reg fun K hK => ?_; simp (disch := omega) only [↓wD, wU, simprocAttr]; refine hK _ _ ?_; clear hK K
 refine w_seq (w_seq ?_)
 by_cases hlen : l.length = m.length
 ·refine w_reg fun K hK => ?_; simp (disch := omega) only [↓wD, wU, simprocAttr, hlen]; refine hK _ _ ?_; clear hK K
  refine wf ?_
  refine w_skip ?_
  (with_reducible repeat first | apply q_n | apply q_e | apply q_r | apply bq_n | apply bq_e | apply bq_r | apply bq_o rfl)
  refine w_seq (w_seq ?_)
  refine w_reg fun K hK => ?_; simp (disch := omega) only [↓wD, wU, simprocAttr]; refine hK _ _ ?_; clear hK K
  refine w_blk (w_loop (fun n f H' => H' = H ∧ f 0 = .slice a l.length c ∧ f 1 = .slice a' m.length c' ∧ ∃ (i : Nat), f 5 = .int .i64 i ∧ i ≤ l.length ∧ (∀ j (hj : j < l.length) (hm : j < m.length), j < i → l[j] = m[j]) ∧ n = l.length - i) _ ⟨rfl, by simp only [wL, Nat.reduceBEq, hlen], by simp only [wL, Nat.reduceBEq], 0, rfl, Nat.zero_le _, fun j hj hm h => by omega, rfl⟩ ?_)
  rintro n f H' ⟨rfl, f0, f1, i, f5, hi, hsame, rfl⟩
  refine w_seq (w_seq ?_)
  by_cases hlt : i < l.length
  ·have hlt' : i < m.length := by omega
   obtain ⟨b, o, rfl, hS, cs, hcs, e, hs1, hs2⟩ := hel i hlt
   obtain ⟨b', o', rfl, hS', cs', hcs', e', hs1', hs2'⟩ := hel' i hlt'
   subst e e'
   refine w_reg fun K hK => ?_; simp (disch := omega) only [↓wD, wU, simprocAttr, f0, f5, hlt]; refine hK _ _ ?_; clear hK K
   refine wt ?_
   refine w_skip ?_
   (with_reducible repeat first | apply q_n | apply q_e | apply q_r | apply bq_n | apply bq_e | apply bq_r | apply bq_o rfl)
   refine w_seq (w_blk ?_)
   by_cases he : l[i] = m[i]
   ·refine w_reg fun K hK => ?_; simp (disch := omega) only [↓wD, wU, simprocAttr, f0, f1, f5, hlt, hlt', hcs, hcs', leavesEq, leafEq, he]; refine hK _ _ ?_; clear hK K
    refine wf ?_
    refine w_skip ?_
    (with_reducible repeat first | apply q_n | apply q_e | apply q_r | apply bq_n | apply bq_e | apply bq_r | apply bq_o rfl)
    refine w_reg1 fun K hK => ?_; simp (disch := omega) only [↓wD, wU, simprocAttr, f5]; refine hK _ _ ?_; clear hK K
    (with_reducible repeat first | apply q_n | apply q_e | apply q_r | apply bq_n | apply bq_e | apply bq_r | apply bq_o rfl)
    refine ⟨l.length - (i + 1), by omega, rfl, (by simp only [wL, Nat.reduceBEq, f0]), (by simp only [wL, Nat.reduceBEq, f1]), i + 1, (by simp only [wL, Nat.reduceBEq]), by omega, fun j hj hm h => ?_, rfl⟩
    by_cases hji : j = i
    ·subst hji; exact he
    ·exact hsame j hj hm (by omega)
   ·have hne : (decide (l[i].key = m[i].key) && (decide (l[i].is = m[i].is) && decide (l[i].value = m[i].value))) = false := by
     cases h : (decide (l[i].key = m[i].key) && (decide (l[i].is = m[i].is) && decide (l[i].value = m[i].value))) with
     | false => rfl
     | true =>
      simp only [Bool.and_eq_true, decide_eq_true_eq] at h
      exact absurd (by cases hl1 : l[i]; cases hm1 : m[i]; simp_all) he
    refine w_reg fun K hK => ?_; simp (disch := omega) only [↓wD, wU, simprocAttr, f0, f1, f5, hlt, hlt', hcs, hcs', leavesEq, leafEq, hne]; refine hK _ _ ?_; clear hK K
    refine wt ?_
    refine w_reg fun K hK => ?_; simp (disch := omega) only [↓wD, wU, simprocAttr]; refine hK _ _ ?_; clear hK K
    refine w_ret ?_; (with_reducible repeat first | apply q_n | apply q_e | apply q_r | apply bq_n | apply bq_e | apply bq_r | apply bq_o rfl); refine ret1 (by (try simp only [wL, Nat.reduceBEq]); rfl) ?_
    refine ⟨?_, rfl⟩
    have : ¬ l = m := fun e => he (by subst e; rfl)
    simp [this]
  ·refine w_reg fun K hK => ?_; simp (disch := omega) only [↓wD, wU, simprocAttr, f0, f5, hlt]; refine hK _ _ ?_; clear hK K
   refine wf ?_
   refine w_exit ?_
   (with_reducible repeat first | apply q_n | apply q_e | apply q_r | apply bq_n | apply bq_e | apply bq_r | apply bq_o rfl)
   refine w_reg fun K hK => ?_; simp (disch := omega) only [↓wD, wU, simprocAttr]; refine hK _ _ ?_; clear hK K
   refine w_ret ?_; (with_reducible repeat first | apply q_n | apply q_e | apply q_r | apply bq_n | apply bq_e | apply bq_r | apply bq_o rfl); refine ret1 (by (try simp only [wL, Nat.reduceBEq]); rfl) ?_
   refine ⟨?_, rfl⟩
   have : l = m := List.ext_getElem hlen fun j h1 h2 => hsame j h1 h2 (by omega)
   simp [this]
 ·refine w_reg fun K hK => ?_; simp (disch := omega) only [↓wD, wU, simprocAttr, hlen]; refine hK _ _ ?_; clear hK K
  refine wt ?_
  refine w_reg fun K hK => ?_; simp (disch := omega) only [↓wD, wU, simprocAttr]; refine hK _ _ ?_; clear hK K
  refine w_ret ?_; (with_reducible repeat first | apply q_n | apply q_e | apply q_r | apply bq_n | apply bq_e | apply bq_r | apply bq_o rfl); refine ret1 (by (try simp only [wL, Nat.reduceBEq]); rfl) ?_
  refine ⟨?_, rfl⟩
  have : ¬ l = m := fun e => hlen (by rw [e])
  simp [this]

theorem Name_cl {H : Hp} (c n : Int) : Cl Tryz.prog 127 [.agg #[.int .i64 c, .int .i64 n]] H fun r H' => r = .bool (decide (1 ≤ c) && decide (c ≤ 8) && decide (1 ≤ n) && decide (n ≤ 1073741824)) ∧ Ext H H' := by
 refine cl_of mixed c_act_Name (Nat.le_of_ble_eq_true rfl) ?_
 simp only [fwp, ir_act_Name, argF, Nat.reduceAdd]
 refine w_reg fun K hK => ?_; simp (disch := omega) only [↓wD, wU, simprocAttr]; refine hK _ _ ?_; clear hK K
 by_cases h1 : 1 ≤ c <;> by_cases h2 : c ≤ 8 <;> by_cases h3 : 1 ≤ n <;> by_cases h4 : n ≤ 1073741824
 all_goals
  refine w_reg fun K hK => ?_; simp (disch := omega) only [↓wD, wU, simprocAttr, h1, h2, h3, h4]; refine hK _ _ ?_; clear hK K
  refine w_ret ?_; (with_reducible repeat first | apply q_n | apply q_e | apply q_r | apply bq_n | apply bq_e | apply bq_r | apply bq_o rfl); refine ret1 (by (try simp only [wL, Nat.reduceBEq]); rfl) ?_
  refine ⟨by simp [h1, h2, h3, h4], ?_⟩
  repeat (first | exact Ext.refl _ | assumption | (refine Ext.trans ?_ (by assumption)) | refine Ext.push ?_ _ | refine Ext.putc ?_ (by first | omega | (simp only [Array.size_push, putc_size]; omega)) _ _)

def cutI (n : Int) : Int := max (min n 1073741824) (-1073741824)
theorem cut_cl {H : Hp} (n : Int) (hn : I64 n) : Cl Tryz.prog 190 [.int .i64 n] H fun r H' => r = .int .i64 (cutI n) ∧ H' = H := by
 refine cl_of mixed c_act_cut (Nat.le_of_ble_eq_true rfl) ?_
 simp only [fwp, ir_act_cut, argF, Nat.reduceAdd]
 refine w_reg fun K hK => ?_; simp (disch := omega) only [↓wD, wU, simprocAttr]; refine hK _ _ ?_; clear hK K
 refine w_reg fun K hK => ?_; simp (disch := omega) only [↓wD, wU, simprocAttr, maxI, minI]; refine hK _ _ ?_; clear hK K
 refine w_ret ?_; (with_reducible repeat first | apply q_n | apply q_e | apply q_r | apply bq_n | apply bq_e | apply bq_r | apply bq_o rfl); refine ret1 (by (try simp only [wL, Nat.reduceBEq]); rfl) ?_
 refine ⟨?_, rfl⟩
 unfold cutI
 congr 1
 split <;> split <;> omega

theorem idxAct_cl {α : Type} {S : Nat → Prop} {H : Hp} {El : List Value → α → Prop} {v fv : Value} {p : α → Bool} {l : List α} (hv : SlP S H 4 El v l) (hf : FnOn Tryz.prog H El fv p l) : Cl Tryz.prog 188 [v, fv] H fun r H' => r = .int .i64 (fIdx p l) ∧ Ext H H' := by
 refine cl_of mixed c_slices_IndexFunc_Act (Nat.le_of_ble_eq_true rfl) ?_
 simp only [fwp, ir_slices_IndexFunc_Act, argF, Nat.reduceAdd]
 obtain ⟨a, c, rfl, hc, hl, hel⟩ := SlP.open hv
 obtain ⟨g, first, cap, rfl, hf⟩ := hf
 clear hv
 refine w_reg fun K hK => ?_; simp (disch := omega) only [↓wD, wU, simprocAttr]; refine hK _ _ ?_; clear hK K
 refine w_seq (w_seq ?_)
 refine w_reg fun K hK => ?_; simp (disch := omega) only [↓wD, wU, simprocAttr]; refine hK _ _ ?_; clear hK K
 refine w_blk (w_loop (fun n f H' => Ext H H' ∧ f 0 = .slice a l.length c ∧ f 1 = .func (.func g) first cap ∧ f 7 = .int .i64 l.length ∧ ∃ (i : Nat), f 8 = .int .i64 i ∧ i ≤ l.length ∧ (∀ j (hj : j < l.length), j < i → p l[j] = false) ∧ n = l.length - i) _ ⟨Ext.refl _, by simp only [wL, Nat.reduceBEq], by simp only [wL, Nat.reduceBEq], by simp only [wL, Nat.reduceBEq], 0, rfl, Nat.zero_le _, fun j hj h => by omega, rfl⟩ ?_)
 rintro n f H' ⟨hE, f0, f1, f7, i, f8, hi, hno, rfl⟩
 by_cases hlt : i < l.length
 ·obtain ⟨b, o, rfl, hS, cs, hcs, he⟩ := hel i hlt
  refine w_reg fun K hK => ?_; simp (disch := omega) only [↓wD, wU, simprocAttr, f7, f8, hlt]; refine hK _ _ ?_; clear hK K
  refine w_seq ?_
  refine wt ?_
  refine w_skip ?_
  (with_reducible repeat first | apply q_n | apply q_e | apply q_r | apply bq_n | apply bq_e | apply bq_r | apply bq_o rfl)
  refine w_seq (w_blk ?_)
  refine w_reg fun K hK => ?_; simp (disch := omega) only [↓wD, wU, simprocAttr, f8]; refine hK _ _ ?_; clear hK K
  refine w_reg fun K hK => ?_
  have hcs' : rdn H' b (o + i * 4) 4 = some cs := rdn_ext hE hcs
  simp (disch := omega) only [↓wD, wU, simprocAttr, f0, f1, f8, hlt, hcs']
  refine w_call (hf _ hE _ (List.getElem_mem hlt) _ he) ?_
  rintro _ H1 ⟨rfl, hE1⟩
  simp (disch := omega) only [↓wD, wU, simprocAttr]
  refine hK _ _ ?_
  clear hK K
  cases hp : p l[i] with
  | true =>
   refine w_true (by simp only [wL, Nat.reduceBEq, Bool.not_true, Bool.not_false, hp]) ?_
   refine w_reg fun K hK => ?_; simp (disch := omega) only [↓wD, wU, simprocAttr, f8]; refine hK _ _ ?_; clear hK K
   refine w_ret ?_; (with_reducible repeat first | apply q_n | apply q_e | apply q_r | apply bq_n | apply bq_e | apply bq_r | apply bq_o rfl); refine ret1 (by (try simp only [wL, Nat.reduceBEq]); rfl) ?_
   exact ⟨by rw [fIdx_some hlt hno hp], hE.trans hE1⟩
  | false =>
   refine w_false (by simp only [wL, Nat.reduceBEq, Bool.not_true, Bool.not_false, hp]) ?_
   refine w_skip ?_
   (with_reducible repeat first | apply q_n | apply q_e | apply q_r | apply bq_n | apply bq_e | apply bq_r | apply bq_o rfl)
   refine w_reg1 fun K hK => ?_; simp (disch := omega) only [↓wD, wU, simprocAttr, f8]; refine hK _ _ ?_; clear hK K
   (with_reducible repeat first | apply q_n | apply q_e | apply q_r | apply bq_n | apply bq_e | apply bq_r | apply bq_o rfl)
   refine ⟨l.length - (i + 1), by omega, hE.trans hE1, (by simp only [wL, Nat.reduceBEq, f0]), (by simp only [wL, Nat.reduceBEq, f1]), (by simp only [wL, Nat.reduceBEq, f7]), i + 1, (by simp only [wL, Nat.reduceBEq]), by omega, fun j hj h => ?_, rfl⟩
   by_cases hji : j = i
   ·subst hji; exact hp
   ·exact hno j hj (by omega)
 ·refine w_reg fun K hK => ?_; simp (disch := omega) only [↓wD, wU, simprocAttr, f7, f8, hlt]; refine hK _ _ ?_; clear hK K
  refine w_seq ?_
  refine wf ?_
  refine w_exit ?_
  (with_reducible repeat first | apply q_n | apply q_e | apply q_r | apply bq_n | apply bq_e | apply bq_r | apply bq_o rfl)
  refine w_reg fun K hK => ?_; simp (disch := omega) only [↓wD, wU, simprocAttr]; refine hK _ _ ?_; clear hK K
  refine w_ret ?_; (with_reducible repeat first | apply q_n | apply q_e | apply q_r | apply bq_n | apply bq_e | apply bq_r | apply bq_o rfl); refine ret1 (by (try simp only [wL, Nat.reduceBEq]); rfl) ?_
  exact ⟨by rw [fIdx_none fun j hj => hno j hj (by omega)], hE⟩
theorem hasAct_cl {α : Type} {S : Nat → Prop} {H : Hp} {El : List Value → α → Prop} {v fv : Value} {p : α → Bool} {l : List α} (hv : SlP S H 4 El v l) (hf : FnOn Tryz.prog H El fv p l) : Cl Tryz.prog 158 [v, fv] H fun r H' => r = .bool (l.any p) ∧ Ext H H' := by
 refine cl_of mixed c_slices_ContainsFunc_Act (Nat.le_of_ble_eq_true rfl) ?_
 simp only [fwp, ir_slices_ContainsFunc_Act, argF, Nat.reduceAdd]
 refine w_reg fun K hK => ?_; simp (disch := omega) only [↓wD, wU, simprocAttr]; refine hK _ _ ?_; clear hK K
 refine w_reg fun K hK => ?_
 simp (disch := omega) only [↓wD, wU, simprocAttr]
 refine w_call (idxAct_cl hv hf) ?_
 rintro _ H1 ⟨rfl, hE⟩
 simp (disch := omega) only [↓wD, wU, simprocAttr, fIdx_nneg]
 refine hK _ _ ?_
 clear hK K
 refine w_ret ?_; (with_reducible repeat first | apply q_n | apply q_e | apply q_r | apply bq_n | apply bq_e | apply bq_r | apply bq_o rfl); refine ret1 (by (try simp only [wL, Nat.reduceBEq]); rfl) ?_
 exact ⟨rfl, hE⟩

theorem idxRead_cl {α : Type} {S : Nat → Prop} {H : Hp} {El : List Value → α → Prop} {v fv : Value} {p : α → Bool} {l : List α} (hv : SlP S H 3 El v l) (hf : FnOn Tryz.prog H El fv p l) : Cl Tryz.prog 157 [v, fv] H fun r H' => r = .int .i64 (fIdx p l) ∧ Ext H H' := by
 refine cl_of mixed c_slices_IndexFunc_Read (Nat.le_of_ble_eq_true rfl) ?_
 simp only [fwp, ir_slices_IndexFunc_Read, argF, Nat.reduceAdd]
 obtain ⟨a, c, rfl, hc, hl, hel⟩ := SlP.open hv
 obtain ⟨g, first, cap, rfl, hf⟩ := hf
 clear hv
 refine w_reg fun K hK => ?_; simp (disch := omega) only [↓wD, wU, simprocAttr]; refine hK _ _ ?_; clear hK K
 refine w_seq (w_seq ?_)
 refine w_reg fun K hK => ?_; simp (disch := omega) only [↓wD, wU, simprocAttr]; refine hK _ _ ?_; clear hK K
 refine w_blk (w_loop (fun n f H' => Ext H H' ∧ f 0 = .slice a l.length c ∧ f 1 = .func (.func g) first cap ∧ f 7 = .int .i64 l.length ∧ ∃ (i : Nat), f 8 = .int .i64 i ∧ i ≤ l.length ∧ (∀ j (hj : j < l.length), j < i → p l[j] = false) ∧ n = l.length - i) _ ⟨Ext.refl _, by simp only [wL, Nat.reduceBEq], by simp only [wL, Nat.reduceBEq], by simp only [wL, Nat.reduceBEq], 0, rfl, Nat.zero_le _, fun j hj h => by omega, rfl⟩ ?_)
 rintro n f H' ⟨hE, f0, f1, f7, i, f8, hi, hno, rfl⟩
 by_cases hlt : i < l.length
 ·obtain ⟨b, o, rfl, hS, cs, hcs, he⟩ := hel i hlt
  refine w_reg fun K hK => ?_; simp (disch := omega) only [↓wD, wU, simprocAttr, f7, f8, hlt]; refine hK _ _ ?_; clear hK K
  refine w_seq ?_
  refine wt ?_
  refine w_skip ?_
  (with_reducible repeat first | apply q_n | apply q_e | apply q_r | apply bq_n | apply bq_e | apply bq_r | apply bq_o rfl)
  refine w_seq (w_blk ?_)
  refine w_reg fun K hK => ?_; simp (disch := omega) only [↓wD, wU, simprocAttr, f8]; refine hK _ _ ?_; clear hK K
  refine w_reg fun K hK => ?_
  have hcs' : rdn H' b (o + i * 3) 3 = some cs := rdn_ext hE hcs
  simp (disch := omega) only [↓wD, wU, simprocAttr, f0, f1, f8, hlt, hcs']
  refine w_call (hf _ hE _ (List.getElem_mem hlt) _ he) ?_
  rintro _ H1 ⟨rfl, hE1⟩
  simp (disch := omega) only [↓wD, wU, simprocAttr]
  refine hK _ _ ?_
  clear hK K
  cases hp : p l[i] with
  | true =>
   refine w_true (by simp only [wL, Nat.reduceBEq, Bool.not_true, Bool.not_false, hp]) ?_
   refine w_reg fun K hK => ?_; simp (disch := omega) only [↓wD, wU, simprocAttr, f8]; refine hK _ _ ?_; clear hK K
   refine w_ret ?_; (with_reducible repeat first | apply q_n | apply q_e | apply q_r | apply bq_n | apply bq_e | apply bq_r | apply bq_o rfl); refine ret1 (by (try simp only [wL, Nat.reduceBEq]); rfl) ?_
   exact ⟨by rw [fIdx_some hlt hno hp], hE.trans hE1⟩
  | false =>
   refine w_false (by simp only [wL, Nat.reduceBEq, Bool.not_true, Bool.not_false, hp]) ?_
   refine w_skip ?_
   (with_reducible repeat first | apply q_n | apply q_e | apply q_r | apply bq_n | apply bq_e | apply bq_r | apply bq_o rfl)
   refine w_reg1 fun K hK => ?_; simp (disch := omega) only [↓wD, wU, simprocAttr, f8]; refine hK _ _ ?_; clear hK K
   (with_reducible repeat first | apply q_n | apply q_e | apply q_r | apply bq_n | apply bq_e | apply bq_r | apply bq_o rfl)
   refine ⟨l.length - (i + 1), by omega, hE.trans hE1, (by simp only [wL, Nat.reduceBEq, f0]), (by simp only [wL, Nat.reduceBEq, f1]), (by simp only [wL, Nat.reduceBEq, f7]), i + 1, (by simp only [wL, Nat.reduceBEq]), by omega, fun j hj h => ?_, rfl⟩
   by_cases hji : j = i
   ·subst hji; exact hp
   ·exact hno j hj (by omega)
 ·refine w_reg fun K hK => ?_; simp (disch := omega) only [↓wD, wU, simprocAttr, f7, f8, hlt]; refine hK _ _ ?_; clear hK K
  refine w_seq ?_
  refine wf ?_
  refine w_exit ?_
  (with_reducible repeat first | apply q_n | apply q_e | apply q_r | apply bq_n | apply bq_e | apply bq_r | apply bq_o rfl)
  refine w_reg fun K hK => ?_; simp (disch := omega) only [↓wD, wU, simprocAttr]; refine hK _ _ ?_; clear hK K
  refine w_ret ?_; (with_reducible repeat first | apply q_n | apply q_e | apply q_r | apply bq_n | apply bq_e | apply bq_r | apply bq_o rfl); refine ret1 (by (try simp only [wL, Nat.reduceBEq]); rfl) ?_
  exact ⟨by rw [fIdx_none fun j hj => hno j hj (by omega)], hE⟩
theorem hasRead_cl {α : Type} {S : Nat → Prop} {H : Hp} {El : List Value → α → Prop} {v fv : Value} {p : α → Bool} {l : List α} (hv : SlP S H 3 El v l) (hf : FnOn Tryz.prog H El fv p l) : Cl Tryz.prog 125 [v, fv] H fun r H' => r = .bool (l.any p) ∧ Ext H H' := by
 refine cl_of mixed c_slices_ContainsFunc_Read (Nat.le_of_ble_eq_true rfl) ?_
 simp only [fwp, ir_slices_ContainsFunc_Read, argF, Nat.reduceAdd]
 refine w_reg fun K hK => ?_; simp (disch := omega) only [↓wD, wU, simprocAttr]; refine hK _ _ ?_; clear hK K
 refine w_reg fun K hK => ?_
 simp (disch := omega) only [↓wD, wU, simprocAttr]
 refine w_call (idxRead_cl hv hf) ?_
 rintro _ H1 ⟨rfl, hE⟩
 simp (disch := omega) only [↓wD, wU, simprocAttr, fIdx_nneg]
 refine hK _ _ ?_
 clear hK K
 refine w_ret ?_; (with_reducible repeat first | apply q_n | apply q_e | apply q_r | apply bq_n | apply bq_e | apply bq_r | apply bq_o rfl); refine ret1 (by (try simp only [wL, Nat.reduceBEq]); rfl) ?_
 exact ⟨rfl, hE⟩

theorem idxHold_cl {α : Type} {S : Nat → Prop} {H : Hp} {El : List Value → α → Prop} {v fv : Value} {p : α → Bool} {l : List α} (hv : SlP S H 7 El v l) (hf : FnOn Tryz.prog H El fv p l) : Cl Tryz.prog 124 [v, fv] H fun r H' => r = .int .i64 (fIdx p l) ∧ Ext H H' := by
 refine cl_of mixed c_slices_IndexFunc_Hold (Nat.le_of_ble_eq_true rfl) ?_
 simp only [fwp, ir_slices_IndexFunc_Hold, argF, Nat.reduceAdd]
 obtain ⟨a, c, rfl, hc, hl, hel⟩ := SlP.open hv
 obtain ⟨g, first, cap, rfl, hf⟩ := hf
 clear hv
 refine w_reg fun K hK => ?_; simp (disch := omega) only [↓wD, wU, simprocAttr]; refine hK _ _ ?_; clear hK K
 refine w_seq (w_seq ?_)
 refine w_reg fun K hK => ?_; simp (disch := omega) only [↓wD, wU, simprocAttr]; refine hK _ _ ?_; clear hK K
 refine w_blk (w_loop (fun n f H' => Ext H H' ∧ f 0 = .slice a l.length c ∧ f 1 = .func (.func g) first cap ∧ f 7 = .int .i64 l.length ∧ ∃ (i : Nat), f 8 = .int .i64 i ∧ i ≤ l.length ∧ (∀ j (hj : j < l.length), j < i → p l[j] = false) ∧ n = l.length - i) _ ⟨Ext.refl _, by simp only [wL, Nat.reduceBEq], by simp only [wL, Nat.reduceBEq], by simp only [wL, Nat.reduceBEq], 0, rfl, Nat.zero_le _, fun j hj h => by omega, rfl⟩ ?_)
 rintro n f H' ⟨hE, f0, f1, f7, i, f8, hi, hno, rfl⟩
 by_cases hlt : i < l.length
 ·obtain ⟨b, o, rfl, hS, cs, hcs, he⟩ := hel i hlt
  refine w_reg fun K hK => ?_; simp (disch := omega) only [↓wD, wU, simprocAttr, f7, f8, hlt]; refine hK _ _ ?_; clear hK K
  refine w_seq ?_
  refine wt ?_
  refine w_skip ?_
  (with_reducible repeat first | apply q_n | apply q_e | apply q_r | apply bq_n | apply bq_e | apply bq_r | apply bq_o rfl)
  refine w_seq (w_blk ?_)
  refine w_reg fun K hK => ?_; simp (disch := omega) only [↓wD, wU, simprocAttr, f8]; refine hK _ _ ?_; clear hK K
  refine w_reg fun K hK => ?_
  have hcs' : rdn H' b (o + i * 7) 7 = some cs := rdn_ext hE hcs
  simp (disch := omega) only [↓wD, wU, simprocAttr, f0, f1, f8, hlt, hcs']
  refine w_call (hf _ hE _ (List.getElem_mem hlt) _ he) ?_
  rintro _ H1 ⟨rfl, hE1⟩
  simp (disch := omega) only [↓wD, wU, simprocAttr]
  refine hK _ _ ?_
  clear hK K
  cases hp : p l[i] with
  | true =>
   refine w_true (by simp only [wL, Nat.reduceBEq, Bool.not_true, Bool.not_false, hp]) ?_
   refine w_reg fun K hK => ?_; simp (disch := omega) only [↓wD, wU, simprocAttr, f8]; refine hK _ _ ?_; clear hK K
   refine w_ret ?_; (with_reducible repeat first | apply q_n | apply q_e | apply q_r | apply bq_n | apply bq_e | apply bq_r | apply bq_o rfl); refine ret1 (by (try simp only [wL, Nat.reduceBEq]); rfl) ?_
   exact ⟨by rw [fIdx_some hlt hno hp], hE.trans hE1⟩
  | false =>
   refine w_false (by simp only [wL, Nat.reduceBEq, Bool.not_true, Bool.not_false, hp]) ?_
   refine w_skip ?_
   (with_reducible repeat first | apply q_n | apply q_e | apply q_r | apply bq_n | apply bq_e | apply bq_r | apply bq_o rfl)
   refine w_reg1 fun K hK => ?_; simp (disch := omega) only [↓wD, wU, simprocAttr, f8]; refine hK _ _ ?_; clear hK K
   (with_reducible repeat first | apply q_n | apply q_e | apply q_r | apply bq_n | apply bq_e | apply bq_r | apply bq_o rfl)
   refine ⟨l.length - (i + 1), by omega, hE.trans hE1, (by simp only [wL, Nat.reduceBEq, f0]), (by simp only [wL, Nat.reduceBEq, f1]), (by simp only [wL, Nat.reduceBEq, f7]), i + 1, (by simp only [wL, Nat.reduceBEq]), by omega, fun j hj h => ?_, rfl⟩
   by_cases hji : j = i
   ·subst hji; exact hp
   ·exact hno j hj (by omega)
 ·refine w_reg fun K hK => ?_; simp (disch := omega) only [↓wD, wU, simprocAttr, f7, f8, hlt]; refine hK _ _ ?_; clear hK K
  refine w_seq ?_
  refine wf ?_
  refine w_exit ?_
  (with_reducible repeat first | apply q_n | apply q_e | apply q_r | apply bq_n | apply bq_e | apply bq_r | apply bq_o rfl)
  refine w_reg fun K hK => ?_; simp (disch := omega) only [↓wD, wU, simprocAttr]; refine hK _ _ ?_; clear hK K
  refine w_ret ?_; (with_reducible repeat first | apply q_n | apply q_e | apply q_r | apply bq_n | apply bq_e | apply bq_r | apply bq_o rfl); refine ret1 (by (try simp only [wL, Nat.reduceBEq]); rfl) ?_
  exact ⟨by rw [fIdx_none fun j hj => hno j hj (by omega)], hE⟩
theorem hasHold_cl {α : Type} {S : Nat → Prop} {H : Hp} {El : List Value → α → Prop} {v fv : Value} {p : α → Bool} {l : List α} (hv : SlP S H 7 El v l) (hf : FnOn Tryz.prog H El fv p l) : Cl Tryz.prog 69 [v, fv] H fun r H' => r = .bool (l.any p) ∧ Ext H H' := by
 refine cl_of mixed c_slices_ContainsFunc_Hold (Nat.le_of_ble_eq_true rfl) ?_
 simp only [fwp, ir_slices_ContainsFunc_Hold, argF, Nat.reduceAdd]
 refine w_reg fun K hK => ?_; simp (disch := omega) only [↓wD, wU, simprocAttr]; refine hK _ _ ?_; clear hK K
 refine w_reg fun K hK => ?_
 simp (disch := omega) only [↓wD, wU, simprocAttr]
 refine w_call (idxHold_cl hv hf) ?_
 rintro _ H1 ⟨rfl, hE⟩
 simp (disch := omega) only [↓wD, wU, simprocAttr, fIdx_nneg]
 refine hK _ _ ?_
 clear hK K
 refine w_ret ?_; (with_reducible repeat first | apply q_n | apply q_e | apply q_r | apply bq_n | apply bq_e | apply bq_r | apply bq_o rfl); refine ret1 (by (try simp only [wL, Nat.reduceBEq]); rfl) ?_
 exact ⟨rfl, hE⟩
end Go.WK
/-
 The texts in the small language of some loaded functions, each held against the loaded one by the kernel.
-/
namespace Go.WK
open Go
def ir_strings_makeASCIISet : FIR := ⟨21, (.seq (.reg [.s 2 (.new 235 [(.bool false), (.bool false), (.bool false), (.bool false), (.bool false), (.bool false), (.bool false), (.bool false), (.bool false), (.bool false), (.bool false), (.bool false), (.bool false), (.bool false), (.bool false), (.bool false), (.bool false), (.bool false), (.bool false), (.bool false), (.bool false), (.bool false), (.bool false), (.bool false), (.bool false), (.bool false), (.bool false), (.bool false), (.bool false), (.bool false), (.bool false), (.bool false), (.bool false), (.bool false), (.bool false), (.bool false), (.bool false), (.bool false), (.bool false), (.bool false), (.bool false), (.bool false), (.bool false), (.bool false), (.bool false), (.bool false), (.bool false), (.bool false), (.bool false), (.bool false), (.bool false), (.bool false), (.bool false), (.bool false), (.bool false), (.bool false), (.bool false), (.bool false), (.bool false), (.bool false), (.bool false), (.bool false), (.bool false), (.bool false), (.bool false), (.bool false), (.bool false), (.bool false), (.bool false), (.bool false), (.bool false), (.bool false), (.bool false), (.bool false), (.bool false), (.bool false), (.bool false), (.bool false), (.bool false), (.bool false), (.bool false), (.bool false), (.bool false), (.bool false), (.bool false), (.bool false), (.bool false), (.bool false), (.bool false), (.bool false), (.bool false), (.bool false), (.bool false), (.bool false), (.bool false), (.bool false), (.bool false), (.bool false), (.bool false), (.bool false), (.bool false), (.bool false), (.bool false), (.bool false), (.bool false), (.bool false), (.bool false), (.bool false), (.bool false), (.bool false), (.bool false), (.bool false), (.bool false), (.bool false), (.bool false), (.bool false), (.bool false), (.bool false), (.bool false), (.bool false), (.bool false), (.bool false), (.bool false), (.bool false), (.bool false), (.bool false), (.bool false), (.bool false), (.bool false), (.bool false), (.bool false), (.bool false), (.bool false), (.bool false), (.bool false), (.bool false), (.bool false), (.bool false), (.bool false), (.bool false), (.bool false), (.bool false), (.bool false), (.bool false), (.bool false), (.bool false), (.bool false), (.bool false), (.bool false), (.bool false), (.bool false), (.bool false), (.bool false), (.bool false), (.bool false), (.bool false), (.bool false), (.bool false), (.bool false), (.bool false), (.bool false), (.bool false), (.bool false), (.bool false), (.bool false), (.bool false), (.bool false), (.bool false), (.bool false), (.bool false), (.bool false), (.bool false), (.bool false), (.bool false), (.bool false), (.bool false), (.bool false), (.bool false), (.bool false), (.bool false), (.bool false), (.bool false), (.bool false), (.bool false), (.bool false), (.bool false), (.bool false), (.bool false), (.bool false), (.bool false), (.bool false), (.bool false), (.bool false), (.bool false), (.bool false), (.bool false), (.bool false), (.bool false), (.bool false), (.bool false), (.bool false), (.bool false), (.bool false), (.bool false), (.bool false), (.bool false), (.bool false), (.bool false), (.bool false), (.bool false), (.bool false), (.bool false), (.bool false), (.bool false), (.bool false), (.bool false), (.bool false), (.bool false), (.bool false), (.bool false), (.bool false), (.bool false), (.bool false), (.bool false), (.bool false), (.bool false), (.bool false), (.bool false), (.bool false), (.bool false), (.bool false), (.bool false), (.bool false), (.bool false), (.bool false), (.bool false), (.bool false), (.bool false), (.bool false), (.bool false), (.bool false), (.bool false), (.bool false), (.bool false), (.bool false), (.bool false), (.bool false), (.bool false), (.bool false), (.bool false), (.bool false), (.bool false), (.bool false), (.bool false), (.bool false), (.bool false)]),
 .s 3 (.mv (.const (.bool false)))])
 (.seq (.seq (.reg [.s 4 (.mv (.const (.int .i64 0)))])
  (.blk 0 (.loop (.seq (.seq (.reg [.s 6 (.mv (.tmp 4)),
    .s 7 (.mv (.tmp 0)),
    .s 8 (.slen (.tmp 7)),
    .s 9 (.bin .lss (.tmp 6) (.tmp 8))])
    (.cnd (.tmp 9) .skip
     (.exit 0)))
   (.seq (.blk 1 (.seq (.reg [.s 12 (.mv (.tmp 0)),
     .s 13 (.mv (.tmp 4)),
     .s 14 (.ixs (.tmp 12) (.tmp 13)),
     .s 5 (.mv (.tmp 14))])
     (.seq (.seq (.reg [.s 15 (.mv (.tmp 5)),
      .s 16 (.bin .geq (.tmp 15) (.const (.int .u8 128)))])
      (.cnd (.tmp 16) (.seq (.reg [.s 17 (.ldn 256 (.tmp 2)),
        .e (.st 256 (.tmp 2) (.tmp 17)),
        .s 3 (.mv (.const (.bool false)))])
       .ret)
       .skip))
     (.reg [.s 18 (.mv (.tmp 5)),
      .s 19 (.iaa 256 1 (.tmp 2) (.tmp 18)),
      .e (.st 1 (.tmp 19) (.const (.bool true)))]))))
    (.reg [.s 10 (.mv (.tmp 4)),
    .s 11 (.bin .add (.tmp 10) (.const (.int .i64 1))),
    .s 4 (.mv (.tmp 11))]))))))
 (.seq (.reg [.s 20 (.ldn 256 (.tmp 2)),
  .e (.st 256 (.tmp 2) (.tmp 20)),
  .s 3 (.mv (.const (.bool true)))])
  .ret))), [.cn 2 256, .t 3]⟩
theorem c_strings_makeASCIISet : (compF Go.Proofs.Tryz.prog 205).map linF = some ir_strings_makeASCIISet := by kernel_rfl
def ir_strings_asciiSet_contains : FIR := ⟨10, (.seq (.reg [.s 4 (.mv (.const (.bool false)))])
 (.seq (.reg [.s 5 (.mv (.tmp 0)),
  .s 6 (.mv (.tmp 1)),
  .s 7 (.nck (.tmp 5)),
  .s 8 (.iaa 256 1 (.tmp 7) (.tmp 6)),
  .s 9 (.ld (.tmp 8)),
  .s 4 (.mv (.tmp 9))])
 .ret)), [.t 4]⟩
theorem c_strings_asciiSet_contains : (compF Go.Proofs.Tryz.prog 212).map linF = some ir_strings_asciiSet_contains := by kernel_rfl
def ir_strings_trimLeftASCII : FIR := ⟨16, (.seq (.reg [.s 4 (.mv (.const (.string .empty)))])
 (.seq (.blk 0 (.loop (.seq (.seq (.reg [.s 5 (.mv (.tmp 0)),
    .s 6 (.slen (.tmp 5)),
    .s 7 (.bin .gtr (.tmp 6) (.const (.int .i64 0)))])
   (.cnd (.tmp 7) .skip
    (.exit 0)))
   (.blk 1 (.seq (.seq (.reg [.s 8 (.mv (.tmp 1)),
     .s 9 (.mv (.tmp 0)),
     .s 10 (.ixs (.tmp 9) (.const (.int .i64 0))),
     .s 11 (.call 212 [(.tmp 8), (.tmp 10)]),
     .s 12 (.un .not (.tmp 11))])
    (.cnd (.tmp 12) (.exit 0)
     .skip))
    (.reg [.s 13 (.mv (.tmp 0)),
    .s 14 (.sls (.tmp 13) (some (.const (.int .i64 1))) none),
    .s 0 (.mv (.tmp 14))]))))))
 (.seq (.reg [.s 15 (.mv (.tmp 0)),
  .s 4 (.mv (.tmp 15))])
  .ret))), [.t 4]⟩
theorem c_strings_trimLeftASCII : (compF Go.Proofs.Tryz.prog 206).map linF = some ir_strings_trimLeftASCII := by kernel_rfl
def ir_strings_trimRightASCII : FIR := ⟨22, (.seq (.reg [.s 4 (.mv (.const (.string .empty)))])
 (.seq (.blk 0 (.loop (.seq (.seq (.reg [.s 5 (.mv (.tmp 0)),
    .s 6 (.slen (.tmp 5)),
    .s 7 (.bin .gtr (.tmp 6) (.const (.int .i64 0)))])
   (.cnd (.tmp 7) .skip
    (.exit 0)))
   (.blk 1 (.seq (.seq (.reg [.s 8 (.mv (.tmp 1)),
     .s 9 (.mv (.tmp 0)),
     .s 10 (.mv (.tmp 0)),
     .s 11 (.slen (.tmp 10)),
     .s 12 (.bin .sub (.tmp 11) (.const (.int .i64 1))),
     .s 13 (.ixs (.tmp 9) (.tmp 12)),
     .s 14 (.call 212 [(.tmp 8), (.tmp 13)]),
     .s 15 (.un .not (.tmp 14))])
    (.cnd (.tmp 15) (.exit 0)
     .skip))
    (.reg [.s 16 (.mv (.tmp 0)),
    .s 17 (.mv (.tmp 0)),
    .s 18 (.slen (.tmp 17)),
    .s 19 (.bin .sub (.tmp 18) (.const (.int .i64 1))),
    .s 20 (.sls (.tmp 16) none (some (.tmp 19))),
    .s 0 (.mv (.tmp 20))]))))))
 (.seq (.reg [.s 21 (.mv (.tmp 0)),
  .s 4 (.mv (.tmp 21))])
  .ret))), [.t 4]⟩
theorem c_strings_trimRightASCII : (compF Go.Proofs.Tryz.prog 207).map linF = some ir_strings_trimRightASCII := by kernel_rfl
def ir_strings_Trim : FIR := ⟨43, (.seq (.reg [.s 4 (.mv (.const (.string .empty)))])
 (.seq (.seq (.reg [.s 7 (.mv (.tmp 0)),
  .s 8 (.bin .eql (.tmp 7) (.const (.string .empty))),
  .s 9 (.mv (.tmp 8)),
  .g 10 9 false (.mv (.tmp 1)),
  .g 11 9 false (.bin .eql (.tmp 10) (.const (.string .empty))),
  .s 12 (.pick (.tmp 9) (.const (.bool true)) (.tmp 11))])
  (.cnd (.tmp 12) (.seq (.reg [.s 13 (.mv (.tmp 0)),
    .s 4 (.mv (.tmp 13))])
   .ret)
   .skip))
 (.seq (.seq (.reg [.s 14 (.mv (.tmp 1)),
   .s 15 (.slen (.tmp 14)),
   .s 16 (.bin .eql (.tmp 15) (.const (.int .i64 1))),
   .s 17 (.mv (.tmp 16)),
   .g 18 17 true (.mv (.tmp 1)),
   .g 19 17 true (.ixs (.tmp 18) (.const (.int .i64 0))),
   .g 20 17 true (.bin .lss (.tmp 19) (.const (.int .u8 128))),
   .s 21 (.pick (.tmp 17) (.tmp 20) (.const (.bool false)))])
  (.cnd (.tmp 21) (.seq (.reg [.s 22 (.mv (.tmp 0)),
    .s 23 (.mv (.tmp 1)),
    .s 24 (.ixs (.tmp 23) (.const (.int .i64 0))),
    .s 26 (.mv (.tmp 1)),
    .s 27 (.ixs (.tmp 26) (.const (.int .i64 0))),
    .s 25 (.call 204 [(.tmp 22), (.tmp 24)]),
    .s 28 (.call 203 [(.tmp 25), (.tmp 27)]),
    .s 4 (.mv (.tmp 28))])
    .ret)
   .skip))
  (.seq (.seq (.reg [.s 30 (.mv (.tmp 1)),
   .s 31 (.call 205 [(.tmp 30)]),
   .s 29 (.mv (.tmp 31)),
   .s 32 (.ext 0 (.tmp 29)),
   .s 33 (.ext 1 (.tmp 29)),
   .s 5 (.new 235 [(.bool false), (.bool false), (.bool false), (.bool false), (.bool false), (.bool false), (.bool false), (.bool false), (.bool false), (.bool false), (.bool false), (.bool false), (.bool false), (.bool false), (.bool false), (.bool false), (.bool false), (.bool false), (.bool false), (.bool false), (.bool false), (.bool false), (.bool false), (.bool false), (.bool false), (.bool false), (.bool false), (.bool false), (.bool false), (.bool false), (.bool false), (.bool false), (.bool false), (.bool false), (.bool false), (.bool false), (.bool false), (.bool false), (.bool false), (.bool false), (.bool false), (.bool false), (.bool false), (.bool false), (.bool false), (.bool false), (.bool false), (.bool false), (.bool false), (.bool false), (.bool false), (.bool false), (.bool false), (.bool false), (.bool false), (.bool false), (.bool false), (.bool false), (.bool false), (.bool false), (.bool false), (.bool false), (.bool false), (.bool false), (.bool false), (.bool false), (.bool false), (.bool false), (.bool false), (.bool false), (.bool false), (.bool false), (.bool false), (.bool false), (.bool false), (.bool false), (.bool false), (.bool false), (.bool false), (.bool false), (.bool false), (.bool false), (.bool false), (.bool false), (.bool false), (.bool false), (.bool false), (.bool false), (.bool false), (.bool false), (.bool false), (.bool false), (.bool false), (.bool false), (.bool false), (.bool false), (.bool false), (.bool false), (.bool false), (.bool false), (.bool false), (.bool false), (.bool false), (.bool false), (.bool false), (.bool false), (.bool false), (.bool false), (.bool false), (.bool false), (.bool false), (.bool false), (.bool false), (.bool false), (.bool false), (.bool false), (.bool false), (.bool false), (.bool false), (.bool false), (.bool false), (.bool false), (.bool false), (.bool false), (.bool false), (.bool false), (.bool false), (.bool false), (.bool false), (.bool false), (.bool false), (.bool false), (.bool false), (.bool false), (.bool false), (.bool false), (.bool false), (.bool false), (.bool false), (.bool false), (.bool false), (.bool false), (.bool false), (.bool false), (.bool false), (.bool false), (.bool false), (.bool false), (.bool false), (.bool false), (.bool false), (.bool false), (.bool false), (.bool false), (.bool false), (.bool false), (.bool false), (.bool false), (.bool false), (.bool false), (.bool false), (.bool false), (.bool false), (.bool false), (.bool false), (.bool false), (.bool false), (.bool false), (.bool false), (.bool false), (.bool false), (.bool false), (.bool false), (.bool false), (.bool false), (.bool false), (.bool false), (.bool false), (.bool false), (.bool false), (.bool false), (.bool false), (.bool false), (.bool false), (.bool false), (.bool false), (.bool false), (.bool false), (.bool false), (.bool false), (.bool false), (.bool false), (.bool false), (.bool false), (.bool false), (.bool false), (.bool false), (.bool false), (.bool false), (.bool false), (.bool false), (.bool false), (.bool false), (.bool false), (.bool false), (.bool false), (.bool false), (.bool false), (.bool false), (.bool false), (.bool false), (.bool false), (.bool false), (.bool false), (.bool false), (.bool false), (.bool false), (.bool false), (.bool false), (.bool false), (.bool false), (.bool false), (.bool false), (.bool false), (.bool false), (.bool false), (.bool false), (.bool false), (.bool false), (.bool false), (.bool false), (.bool false), (.bool false), (.bool false), (.bool false), (.bool false), (.bool false), (.bool false), (.bool false), (.bool false), (.bool false), (.bool false), (.bool false), (.bool false), (.bool false), (.bool false), (.bool false), (.bool false), (.bool false), (.bool false), (.bool false), (.bool false), (.bool false), (.bool false), (.bool false), (.bool false)]),
   .e (.st 256 (.tmp 5) (.tmp 32)),
   .s 6 (.mv (.tmp 33))])
   (.seq (.reg [.s 34 (.mv (.tmp 6))])
   (.cnd (.tmp 34) (.seq (.reg [.s 35 (.mv (.tmp 0)),
     .s 36 (.call 207 [(.tmp 35), (.tmp 5)]),
     .s 37 (.call 206 [(.tmp 36), (.tmp 5)]),
     .s 4 (.mv (.tmp 37))])
     .ret)
    .skip)))
  (.seq (.reg [.s 38 (.mv (.tmp 0)),
   .s 39 (.mv (.tmp 1)),
   .s 40 (.call 209 [(.tmp 38), (.tmp 39)]),
   .s 41 (.mv (.tmp 1)),
   .s 42 (.call 208 [(.tmp 40), (.tmp 41)]),
   .s 4 (.mv (.tmp 42))])
   .ret))))), [.t 4]⟩
theorem c_strings_Trim : (compF Go.Proofs.Tryz.prog 189).map linF = some ir_strings_Trim := by kernel_rfl
def ir_act_Right_1 : FIR := ⟨6, (.seq (.reg [.s 1 (.box 98 (.tmp 0)),
 .s 2 (.mv (.const (.bool false)))])
 (.seq (.reg [.s 3 (.ldn 4 (.tmp 1)),
  .s 4 (.call 160 [(.tmp 3)]),
  .s 5 (.un .not (.tmp 4)),
  .s 2 (.mv (.tmp 5))])
 .ret)), [.t 2]⟩
theorem c_act_Right_1 : (compF Go.Proofs.Tryz.prog 159).map linF = some ir_act_Right_1 := by kernel_rfl
def ir_act_right : FIR := ⟨53, (.seq (.reg [.s 1 (.box 98 (.tmp 0)),
 .s 2 (.mv (.const (.bool false)))])
 (.seq (.reg [.s 6 (.fa 2 (.tmp 1)),
  .s 7 (.ld (.tmp 6)),
  .s 8 (.bin .eql (.tmp 7) (.const (.string .empty))),
  .s 9 (.mv (.tmp 8)),
  .g 10 9 true (.fa 3 (.tmp 1)),
  .g 11 9 true (.ld (.tmp 10)),
  .g 12 9 true (.bin .eql (.tmp 11) (.const (.int .i64 0))),
  .s 13 (.pick (.tmp 9) (.tmp 12) (.const (.bool false))),
  .s 3 (.mv (.tmp 13))])
 (.seq (.reg [.s 14 (.fa 2 (.tmp 1)),
  .s 15 (.ld (.tmp 14)),
  .s 16 (.call 189 [(.tmp 15), (.const (.string ⟨#[97, 98, 99, 100, 101, 102, 103, 104, 105, 106, 107, 108, 109, 110, 111, 112, 113, 114, 115, 116, 117, 118, 119, 120, 121, 122, 48, 49, 50, 51, 52, 53, 54, 55, 56, 57, 45]⟩))]),
  .s 17 (.bin .eql (.tmp 16) (.const (.string .empty))),
  .s 4 (.mv (.tmp 17))])
  (.seq (.drw [(.s 18 (.mkm), []),
   (.s 19 (.mv (.tmp 3)), []),
   (.e (.mup (.i .u8) (.tmp 18) (.const (.int .u8 1)) (.tmp 19)), [0, 1]),
   (.s 20 (.fa 2 (.tmp 1)), []),
   (.s 21 (.ld (.tmp 20)), [3]),
   (.s 22 (.slen (.tmp 21)), [4]),
   (.s 23 (.bin .leq (.tmp 22) (.const (.int .i64 20))), [5]),
   (.s 24 (.mv (.tmp 23)), [6]),
   (.g 25 24 true (.mv (.tmp 4)), [7]),
   (.s 26 (.pick (.tmp 24) (.tmp 25) (.const (.bool false))), [7, 8]),
   (.s 27 (.mv (.tmp 26)), [9, 7]),
   (.g 28 27 true (.fa 3 (.tmp 1)), [10]),
   (.g 29 27 true (.ld (.tmp 28)), [11, 10]),
   (.g 30 27 true (.bin .eql (.tmp 29) (.const (.int .i64 0))), [12, 10]),
   (.s 31 (.pick (.tmp 27) (.tmp 30) (.const (.bool false))), [10, 13]),
   (.e (.mup (.i .u8) (.tmp 18) (.const (.int .u8 2)) (.tmp 31)), [0, 14]),
   (.s 32 (.fa 2 (.tmp 1)), []),
   (.s 33 (.ld (.tmp 32)), [16]),
   (.s 34 (.bin .eql (.tmp 33) (.const (.string .empty))), [17]),
   (.s 35 (.mv (.tmp 34)), [18, 10]),
   (.g 36 35 true (.fa 3 (.tmp 1)), [19]),
   (.g 37 35 true (.ld (.tmp 36)), [20, 19]),
   (.g 38 35 true (.fa 3 (.tmp 1)), [19]),
   (.g 39 35 true (.ld (.tmp 38)), [22, 19]),
   (.g 40 35 true (.call 190 [(.tmp 39)]), [23, 19, 19]),
   (.g 41 35 true (.bin .eql (.tmp 37) (.tmp 40)), [21, 24, 19]),
   (.s 42 (.pick (.tmp 35) (.tmp 41) (.const (.bool false))), [19, 25]),
   (.e (.mup (.i .u8) (.tmp 18) (.const (.int .u8 3)) (.tmp 42)), [0, 26]),
   (.s 43 (.mv (.tmp 18)), [0, 1, 2, 3, 4, 5, 6, 7, 8, 9, 10, 11, 12, 13, 14, 15, 16, 17, 18, 19, 20, 21, 22, 23, 24, 25, 26, 27]),
   (.s 5 (.mv (.tmp 43)), [28, 24, 0, 1, 2, 3, 4, 5, 6, 7, 8, 9, 10, 11, 12, 13, 14, 15, 16, 17, 18, 19, 20, 21, 22, 23, 24, 25, 26, 27, 28])])
  (.seq (.reg [.s 44 (.fa 1 (.tmp 1)),
   .s 45 (.ld (.tmp 44)),
   .s 46 (.call 82 [(.tmp 45)]),
   .s 47 (.mv (.tmp 46)),
   .g 48 47 true (.mv (.tmp 5)),
   .g 49 47 true (.fa 0 (.tmp 1)),
   .g 50 47 true (.ld (.tmp 49)),
   .g 51 47 true (.mlk (.i .u8) (.bool false) false (.tmp 48) (.tmp 50)),
   .s 52 (.pick (.tmp 47) (.tmp 51) (.const (.bool false))),
   .s 2 (.mv (.tmp 52))])
   .ret))))), [.t 2]⟩
theorem c_act_right : (compF Go.Proofs.Tryz.prog 160).map linF = some ir_act_right := by kernel_rfl
def ir_act_Right : FIR := ⟨16, (.seq (.reg [.s 2 (.mv (.const (.bool false)))])
 (.seq (.reg [.s 3 (.mv (.tmp 0)),
  .s 4 (.len (.tmp 3)),
  .s 5 (.bin .geq (.tmp 4) (.const (.int .i64 1))),
  .s 6 (.mv (.tmp 5)),
  .g 7 6 true (.mv (.tmp 0)),
  .g 8 6 true (.len (.tmp 7)),
  .g 9 6 true (.bin .leq (.tmp 8) (.const (.int .i64 6))),
  .s 10 (.pick (.tmp 6) (.tmp 9) (.const (.bool false))),
  .s 11 (.mv (.tmp 10)),
  .g 12 11 true (.mv (.tmp 0)),
  .g 13 11 true (.call 158 [(.tmp 12), (.func 159)]),
  .g 14 11 true (.un .not (.tmp 13)),
  .s 15 (.pick (.tmp 11) (.tmp 14) (.const (.bool false))),
  .s 2 (.mv (.tmp 15))])
 .ret)), [.t 2]⟩
theorem c_act_Right : (compF Go.Proofs.Tryz.prog 128).map linF = some ir_act_Right := by kernel_rfl
end Go.WK
/-
 Sets of bytes; texts that are trimmed.
-/
namespace Go.WK
open Go Go.Proofs

def setOf (l : List UInt8) : List Value := (List.range 256).map fun b => .bool (l.any fun c => c.toNat == b)
theorem setOf_len (l : List UInt8) : (setOf l).length = 256 := by simp [setOf]
theorem setOf_get (l : List UInt8) (i : Nat) (h : i < 256) : (setOf l)[i]? = some (.bool (l.any fun c => c.toNat == i)) := by simp [setOf, h]
theorem setOf_one (l : List UInt8) : ∀ v ∈ setOf l, v.oneCell' = true := by
 intro v hv
 simp only [setOf, List.mem_map] at hv
 obtain ⟨b, _, rfl⟩ := hv
 rfl
theorem setOf_set (l : List UInt8) (c : UInt8) : (setOf l).set c.toNat (.bool true) = setOf (l ++ [c]) := by
 apply List.ext_getElem?
 intro i
 rw [List.getElem?_set]
 by_cases hi : i < 256
 ·rw [setOf_get _ _ hi, setOf_get _ _ hi, setOf_len]
  by_cases hc : c.toNat = i
  ·subst hc; simp [hi]
  ·simp [hc]
 ·rw [List.getElem?_eq_none (l := setOf l) (by rw [setOf_len]; omega), List.getElem?_eq_none (l := setOf (l ++ [c])) (by rw [setOf_len]; omega), setOf_len]
  split
  ·rw [if_neg (by omega)]
  ·rfl
/-- Where a set of bytes lies. -/
def SetAt (H : Hp) (b : Nat) (l : List UInt8) : Prop := ∀ i, i < 256 → cell H b i = some (.bool (l.any fun c => c.toNat == i)) ∧ frz H b i = false
theorem SetAt.own {H : Hp} {b : Nat} {l : List UInt8} (h : SetAt H b l) : Own H b 0 256 := fun j hj => by
 rw [Nat.zero_add]; exact ⟨by rw [(h j hj).1]; rfl, (h j hj).2⟩
theorem SetAt.rdn {H : Hp} {b : Nat} {l : List UInt8} (h : SetAt H b l) : rdn H b 0 256 = some (setOf l) :=
 rdn_of (setOf_len l) fun j hj => by rw [Nat.zero_add, (h j hj).1, setOf_get _ _ hj]
theorem zeroSet : ([.bool false, .bool false, .bool false, .bool false, .bool false, .bool false, .bool false, .bool false] : List Value) = List.replicate 8 (.bool false) := by rfl
theorem SetAt_new (H : Hp) (t : Nat) : SetAt (H.push (.cells (setOf []).toArray t)) H.size [] := fun i hi => by
 rw [cell_new, frz_new, setOf_get _ _ hi]; exact ⟨rfl, rfl⟩
theorem SetAt.put {H : Hp} {b : Nat} {l : List UInt8} (h : SetAt H b l) (c : UInt8) : SetAt (putc H b c.toNat (.bool true)) b (l ++ [c]) := fun i hi => by
 rw [cell_putc, frz_putc]
 refine ⟨?_, (h i hi).2⟩
 by_cases hc : i = c.toNat
 ·subst hc
  rw [if_pos ⟨rfl, rfl⟩, (h _ hi).1]
  simp
 ·rw [if_neg (fun e => hc e.2), (h _ hi).1]
  have : (c.toNat == i) = false := by simp; omega
  simp [this]
theorem SetAt.wrote {H H' : Hp} {b : Nat} {l : List UInt8} (h : Wrote H b 0 (setOf l) H') : (∀ i, i < 256 → frz H b i = false) → SetAt H' b l := fun hf i hi => by
 rw [h.cell, h.frz, if_pos (by rw [setOf_len]; omega)]
 exact ⟨by rw [Nat.sub_zero, setOf_get _ _ hi], hf i hi⟩

theorem makeASCIISet_cl {H : Hp} (s : ByteArray) (hs : Sz s) (ha : ∀ c ∈ s.data.toList, c.toNat < 128) : Cl Tryz.prog 205 [.string s] H fun r H' => r = .tuple #[.agg (setOf s.data.toList).toArray, .bool true] ∧ Ext H H' := by
 unfold Sz big at hs
 refine cl_of mixed c_strings_makeASCIISet (Nat.le_of_ble_eq_true rfl) ?_
 simp only [fwp, ir_strings_makeASCIISet, argF, Nat.reduceAdd]
 refine w_reg fun K hK => ?_
 rw [r_s, i_new]
 refine (?_ : rwp _ _ _ (H.push (.cells (setOf []).toArray _)) _)
 generalize hH0 : H.push (.cells (setOf []).toArray _) = H0
 have hz : H.size < H0.size := by subst hH0; simp
 have hE0 : Ext H H0 := by subst hH0; exact (Ext.refl _).push _
 have hS0 : SetAt H0 H.size [] := by subst hH0; exact SetAt_new _ _
 clear hH0
 simp (disch := omega) only [↓wD, wU, simprocAttr]
 refine hK _ _ ?_
 clear hK K
 refine w_seq (w_seq ?_)
 refine w_reg fun K hK => ?_; simp (disch := omega) only [↓wD, wU, simprocAttr]; refine hK _ _ ?_; clear hK K
 refine w_blk (w_loop (fun n f H' => Ext H H' ∧ f 0 = .string s ∧ f 2 = .pointer (some ⟨H.size, 0, none⟩) ∧ ∃ i : Nat, f 4 = .int .i64 i ∧ i ≤ s.size ∧ SetAt H' H.size (s.data.toList.take i) ∧ n = s.size - i) _ ⟨hE0, by simp only [wL, Nat.reduceBEq], by simp only [wL, Nat.reduceBEq], 0, rfl, Nat.zero_le _, hS0, rfl⟩ ?_)
 rintro n f H1 ⟨hE, f0, f2, i, f4, hi, hset, rfl⟩
 refine w_seq (w_seq ?_)
 by_cases hlt : i < s.size
 ·obtain ⟨c, hc⟩ : ∃ c, s.data[i]? = some c := ⟨_, Array.getElem?_eq_getElem hlt⟩
  have hcm : c ∈ s.data.toList := by simpa using Array.mem_of_getElem? hc
  have hc1 := ha c hcm
  refine w_reg fun K hK => ?_; simp (disch := omega) only [↓wD, wU, simprocAttr, f0, f4, hlt]; refine hK _ _ ?_; clear hK K
  refine wt ?_
  refine w_skip ?_
  (with_reducible repeat first | apply q_n | apply q_e | apply q_r | apply bq_n | apply bq_e | apply bq_r | apply bq_o rfl)
  refine w_seq (w_blk ?_)
  refine w_reg fun K hK => ?_; simp (disch := omega) only [↓wD, wU, simprocAttr, f0, f4, hc]; refine hK _ _ ?_; clear hK K
  refine w_seq (w_seq ?_)
  have h128 : ((128 : Int) ≤ c.toNat) = False := by simp; omega
  refine w_reg fun K hK => ?_; simp (disch := omega) only [↓wD, wU, simprocAttr, h128]; refine hK _ _ ?_; clear hK K
  refine wf ?_
  refine w_skip ?_
  (with_reducible repeat first | apply q_n | apply q_e | apply q_r | apply bq_n | apply bq_e | apply bq_r | apply bq_o rfl)
  have hcell := (hset c.toNat (by omega)).1
  have hfrz := (hset c.toNat (by omega)).2
  have h256 : ((c.toNat : Int) < 256) = True := by simp; omega
  have h256' : (c.toNat < 256) = True := by simp; omega
  refine w_reg1 fun K hK => ?_; simp (disch := omega) only [↓wD, wU, simprocAttr, f2, hcell, hfrz, h256, h256', Nat.mul_one, Value.oneCell']; refine hK _ _ ?_; clear hK K
  (with_reducible repeat first | apply q_n | apply q_e | apply q_r | apply bq_n | apply bq_e | apply bq_r | apply bq_o rfl)
  refine w_reg1 fun K hK => ?_; simp (disch := omega) only [↓wD, wU, simprocAttr, f4]; refine hK _ _ ?_; clear hK K
  (with_reducible repeat first | apply q_n | apply q_e | apply q_r | apply bq_n | apply bq_e | apply bq_r | apply bq_o rfl)
  have htk : s.data.toList.take (i + 1) = s.data.toList.take i ++ [c] := by
   rw [List.take_add_one]
   congr 1
   have : s.data.toList[i]? = some c := by rw [Array.getElem?_toList]; exact hc
   rw [this]; rfl
  refine ⟨s.size - (i + 1), by omega, hE.putc (Nat.le_refl _) _ _, (by simp only [wL, Nat.reduceBEq, f0]), (by simp only [wL, Nat.reduceBEq, f2]), i + 1, (by simp only [wL, Nat.reduceBEq]), by omega, ?_, rfl⟩
  rw [htk]
  exact hset.put c
 ·refine w_reg fun K hK => ?_; simp (disch := omega) only [↓wD, wU, simprocAttr, f0, f4, hlt]; refine hK _ _ ?_; clear hK K
  refine wf ?_
  refine w_exit ?_
  (with_reducible repeat first | apply q_n | apply q_e | apply q_r | apply bq_n | apply bq_e | apply bq_r | apply bq_o rfl)
  have hfull : s.data.toList.take i = s.data.toList := List.take_of_length_le (by simp; have : s.data.size = s.size := rfl; omega)
  rw [hfull] at hset
  have hr := hset.rdn
  obtain ⟨H2, hw, hW⟩ := wrn_ok (l := setOf s.data.toList) (by rw [setOf_len]; exact hset.own) (setOf_one _)
  have hr2 := (SetAt.wrote hW fun i hi => (hset i hi).2).rdn
  refine w_reg fun K hK => ?_; simp (disch := omega) only [↓wD, wU, simprocAttr, f2, hr, hw, setOf_len]; refine hK _ _ ?_; clear hK K
  refine w_ret ?_
  (with_reducible repeat first | apply q_n | apply q_e | apply q_r | apply bq_n | apply bq_e | apply bq_r | apply bq_o rfl)
  refine retG (v := .tuple #[.agg (setOf s.data.toList).toArray, .bool true]) (by simp (disch := omega) only [resV, rvsV, rvV, oneOr, ↓wD, wU, simprocAttr, f2, hr2]) ?_
  exact ⟨rfl, hW.ext hE (Nat.le_refl _)⟩
def inSet (l : List UInt8) (c : UInt8) : Bool := l.any fun d => d.toNat == c.toNat
theorem contains_cl {H : Hp} {b : Nat} {l : List UInt8} (h : SetAt H b l) (c : UInt8) : Cl Tryz.prog 212 [.pointer (some ⟨b, 0, none⟩), .int .u8 c.toNat] H fun r H' => r = .bool (inSet l c) ∧ H' = H := by
 refine cl_of mixed c_strings_asciiSet_contains (Nat.le_of_ble_eq_true rfl) ?_
 simp only [fwp, ir_strings_asciiSet_contains, argF, Nat.reduceAdd]
 have hlt : c.toNat < 256 := c.toNat_lt
 have h256 : ((c.toNat : Int) < 256) = True := by simp; omega
 have h256' : (c.toNat < 256) = True := by simp; omega
 have hc := (h c.toNat hlt).1
 refine w_reg fun K hK => ?_; simp (disch := omega) only [↓wD, wU, simprocAttr]; refine hK _ _ ?_; clear hK K
 refine w_reg fun K hK => ?_; simp (disch := omega) only [↓wD, wU, simprocAttr, h256, h256', Nat.mul_one, hc]; refine hK _ _ ?_; clear hK K
 refine w_ret ?_; (with_reducible repeat first | apply q_n | apply q_e | apply q_r | apply bq_n | apply bq_e | apply bq_r | apply bq_o rfl); refine ret1 (by (try simp only [wL, Nat.reduceBEq]); rfl) ?_
 exact ⟨rfl, rfl⟩

theorem ext_toList (s : ByteArray) (a b : Nat) : (s.extract a b).data.toList = (s.data.toList.drop a).take (b - a) := by
 rw [ByteArray.data_extract]
 simp [Array.toList_extract, List.extract]
theorem ext_size (s : ByteArray) (a b : Nat) (hb : b ≤ s.size) : (s.extract a b).size = b - a := by
 simp [ByteArray.size_extract, Nat.min_eq_left hb]
theorem size_len (s : ByteArray) : s.data.toList.length = s.size := by simp
theorem empty_iff (s : ByteArray) : s = .empty ↔ s.size = 0 := by
 constructor
 ·rintro rfl; rfl
 ·intro h
  obtain ⟨d⟩ := s
  have : d = #[] := Array.eq_empty_of_size_eq_zero h
  subst this
  rfl

theorem trimR_cl {H : Hp} {b : Nat} {l : List UInt8} (h : SetAt H b l) (s : ByteArray) (hs : Sz s) : Cl Tryz.prog 207 [.string s, .pointer (some ⟨b, 0, none⟩)] H fun r H' => H' = H ∧ ∃ t, r = .string t ∧ t.size ≤ s.size ∧ t.data.toList.all (inSet l) = s.data.toList.all (inSet l) := by
 unfold Sz big at hs
 refine cl_of mixed c_strings_trimRightASCII (Nat.le_of_ble_eq_true rfl) ?_
 simp only [fwp, ir_strings_trimRightASCII, argF, Nat.reduceAdd]
 refine w_reg fun K hK => ?_; simp (disch := omega) only [↓wD, wU, simprocAttr]; refine hK _ _ ?_; clear hK K
 refine w_seq ?_
 refine w_blk (w_loop (fun n f H' => H' = H ∧ f 1 = .pointer (some ⟨b, 0, none⟩) ∧ ∃ t, f 0 = .string t ∧ t.size ≤ s.size ∧ t.data.toList.all (inSet l) = s.data.toList.all (inSet l) ∧ n = t.size) _ ⟨rfl, by simp only [wL, Nat.reduceBEq], s, by simp only [wL, Nat.reduceBEq], Nat.le_refl _, rfl, rfl⟩ ?_)
 rintro n f H' ⟨rfl, f1, t, f0, ht, hall, rfl⟩
 refine w_seq (w_seq ?_)
 have fin : ∀ g : Fr, g 0 = .string t → cwp Tryz.prog ((C.reg [O.s 21 (I.mv (Operand.tmp 0)), O.s 4 (I.mv (Operand.tmp 21))]).seq C.ret) g H' (retQ [RV.t 4] fun r H'_1 => H'_1 = H' ∧ ∃ t, r = .string t ∧ t.size ≤ s.size ∧ t.data.toList.all (inSet l) = s.data.toList.all (inSet l)) := by
  intro g g0
  refine w_reg fun K hK => ?_; simp (disch := omega) only [↓wD, wU, simprocAttr, g0]; refine hK _ _ ?_; clear hK K
  refine w_ret ?_; (with_reducible repeat first | apply q_n | apply q_e | apply q_r | apply bq_n | apply bq_e | apply bq_r | apply bq_o rfl); refine ret1 (by (try simp only [wL, Nat.reduceBEq]); rfl) ?_
  exact ⟨rfl, t, rfl, ht, hall⟩
 by_cases h0 : (0 : Int) < t.size
 ·have h0' : 0 < t.size := by omega
  have hix : (t.size : Int) - 1 = ((t.size - 1 : Nat) : Int) := by omega
  obtain ⟨c, hc⟩ : ∃ c, t.data[t.size - 1]? = some c := ⟨_, Array.getElem?_eq_getElem (by have : t.data.size = t.size := rfl; omega)⟩
  refine w_reg fun K hK => ?_; simp (disch := omega) only [↓wD, wU, simprocAttr, f0, h0]; refine hK _ _ ?_; clear hK K
  refine wt ?_
  refine w_skip ?_
  (with_reducible repeat first | apply q_n | apply q_e | apply q_r | apply bq_n | apply bq_e | apply bq_r | apply bq_o rfl)
  refine w_blk (w_seq (w_seq ?_))
  refine w_reg fun K hK => ?_
  simp (disch := omega) only [↓wD, wU, simprocAttr, f0, f1, hix, hc]
  refine w_call (contains_cl h c) ?_
  rintro _ _ ⟨rfl, rfl⟩
  simp (disch := omega) only [↓wD, wU, simprocAttr]
  refine hK _ _ ?_
  clear hK K
  have hsplit : t.data.toList = (t.extract 0 (t.size - 1)).data.toList ++ [c] := by
   rw [ext_toList]
   simp only [List.drop_zero, Nat.sub_zero]
   have : t.data.toList[t.size - 1]? = some c := by rw [Array.getElem?_toList]; exact hc
   have h2 := List.take_append_drop (t.size - 1) t.data.toList
   rw [List.drop_eq_getElem_cons (by rw [size_len]; omega), List.drop_of_length_le (by rw [size_len]; omega)] at h2
   rw [List.getElem?_eq_getElem (by rw [size_len]; omega)] at this
   simp only [Option.some.injEq] at this
   rw [this] at h2
   exact h2.symm
  cases hq : inSet l c with
  | true =>
   refine w_false (by simp only [wL, Nat.reduceBEq, Bool.not_true, Bool.not_false, hq]) ?_
   refine w_skip ?_
   (with_reducible repeat first | apply q_n | apply q_e | apply q_r | apply bq_n | apply bq_e | apply bq_r | apply bq_o rfl)
   have hbd : bounds3 t.size t.size none (some (.int .i64 ((t.size - 1 : Nat) : Int))) none = some (0, t.size - 1, t.size) := b3_01 (by rw [bd_ok (by omega) (by omega)]; simp)
   refine w_reg1 fun K hK => ?_; simp (disch := omega) only [↓wD, wU, simprocAttr, f0, hix, hbd]; refine hK _ _ ?_; clear hK K
   (with_reducible repeat first | apply q_n | apply q_e | apply q_r | apply bq_n | apply bq_e | apply bq_r | apply bq_o rfl)
   refine ⟨t.size - 1, by omega, rfl, (by simp only [wL, Nat.reduceBEq, f1]), _, (by simp only [wL, Nat.reduceBEq]; rfl), ?_, ?_, ?_⟩
   ·rw [ext_size _ _ _ (by omega)]; omega
   ·rw [← hall]
    conv => rhs; rw [hsplit]
    simp [hq]
   ·rw [ext_size _ _ _ (by omega)]; omega
  | false =>
   refine w_true (by simp only [wL, Nat.reduceBEq, Bool.not_true, Bool.not_false, hq]) ?_
   refine w_exit ?_
   (with_reducible repeat first | apply q_n | apply q_e | apply q_r | apply bq_n | apply bq_e | apply bq_r | apply bq_o rfl)
   refine fin _ ?_
   simp only [wL, Nat.reduceBEq, f0]
 ·refine w_reg fun K hK => ?_; simp (disch := omega) only [↓wD, wU, simprocAttr, f0, h0]; refine hK _ _ ?_; clear hK K
  refine wf ?_
  refine w_exit ?_
  (with_reducible repeat first | apply q_n | apply q_e | apply q_r | apply bq_n | apply bq_e | apply bq_r | apply bq_o rfl)
  refine fin _ ?_
  simp only [wL, Nat.reduceBEq, f0]

theorem trimL_cl {H : Hp} {b : Nat} {l : List UInt8} (h : SetAt H b l) (s : ByteArray) (hs : Sz s) : Cl Tryz.prog 206 [.string s, .pointer (some ⟨b, 0, none⟩)] H fun r H' => H' = H ∧ ∃ t, r = .string t ∧ decide (t = .empty) = s.data.toList.all (inSet l) := by
 unfold Sz big at hs
 refine cl_of mixed c_strings_trimLeftASCII (Nat.le_of_ble_eq_true rfl) ?_
 simp only [fwp, ir_strings_trimLeftASCII, argF, Nat.reduceAdd]
 refine w_reg fun K hK => ?_; simp (disch := omega) only [↓wD, wU, simprocAttr]; refine hK _ _ ?_; clear hK K
 refine w_seq ?_
 refine w_blk (w_loop (fun n f H' => H' = H ∧ f 1 = .pointer (some ⟨b, 0, none⟩) ∧ ∃ t, f 0 = .string t ∧ t.size ≤ s.size ∧ t.data.toList.all (inSet l) = s.data.toList.all (inSet l) ∧ n = t.size) _ ⟨rfl, by simp only [wL, Nat.reduceBEq], s, by simp only [wL, Nat.reduceBEq], Nat.le_refl _, rfl, rfl⟩ ?_)
 rintro n f H' ⟨rfl, f1, t, f0, ht, hall, rfl⟩
 refine w_seq (w_seq ?_)
 have fin : ∀ g : Fr, g 0 = .string t → decide (t = .empty) = s.data.toList.all (inSet l) → cwp Tryz.prog ((C.reg [O.s 15 (I.mv (Operand.tmp 0)), O.s 4 (I.mv (Operand.tmp 15))]).seq C.ret) g H' (retQ [RV.t 4] fun r H'_1 => H'_1 = H' ∧ ∃ t, r = .string t ∧ decide (t = .empty) = s.data.toList.all (inSet l)) := by
  intro g g0 hd
  refine w_reg fun K hK => ?_; simp (disch := omega) only [↓wD, wU, simprocAttr, g0]; refine hK _ _ ?_; clear hK K
  refine w_ret ?_; (with_reducible repeat first | apply q_n | apply q_e | apply q_r | apply bq_n | apply bq_e | apply bq_r | apply bq_o rfl); refine ret1 (by (try simp only [wL, Nat.reduceBEq]); rfl) ?_
  exact ⟨rfl, t, rfl, hd⟩
 by_cases h0 : (0 : Int) < t.size
 ·have h0' : 0 < t.size := by omega
  obtain ⟨c, hc⟩ : ∃ c, t.data[0]? = some c := ⟨_, Array.getElem?_eq_getElem (by have : t.data.size = t.size := rfl; omega)⟩
  refine w_reg fun K hK => ?_; simp (disch := omega) only [↓wD, wU, simprocAttr, f0, h0]; refine hK _ _ ?_; clear hK K
  refine wt ?_
  refine w_skip ?_
  (with_reducible repeat first | apply q_n | apply q_e | apply q_r | apply bq_n | apply bq_e | apply bq_r | apply bq_o rfl)
  refine w_blk (w_seq (w_seq ?_))
  refine w_reg fun K hK => ?_
  have i0 : (0 : Int).toNat = 0 := rfl
  simp (disch := omega) only [↓wD, wU, simprocAttr, f0, f1, i0, hc]
  refine w_call (contains_cl h c) ?_
  rintro _ _ ⟨rfl, rfl⟩
  simp (disch := omega) only [↓wD, wU, simprocAttr]
  refine hK _ _ ?_
  clear hK K
  have hsplit : t.data.toList = c :: (t.extract 1 t.size).data.toList := by
   rw [ext_toList]
   have : t.data.toList[0]? = some c := by rw [Array.getElem?_toList]; exact hc
   cases hl : t.data.toList with
   | nil => rw [hl] at this; cases this
   | cons d l' =>
    rw [hl] at this
    simp at this
    subst this
    have := size_len t
    rw [hl] at this
    simp at this
    simp [← this]
  cases hq : inSet l c with
  | true =>
   refine w_false (by simp only [wL, Nat.reduceBEq, Bool.not_true, Bool.not_false, hq]) ?_
   refine w_skip ?_
   (with_reducible repeat first | apply q_n | apply q_e | apply q_r | apply bq_n | apply bq_e | apply bq_r | apply bq_o rfl)
   have hbd : bounds3 t.size t.size (some (.int .i64 1)) none none = some (1, t.size, t.size) := b3_10 (by rw [bd_ok (by omega) (by omega)]; rfl)
   refine w_reg1 fun K hK => ?_; simp (disch := omega) only [↓wD, wU, simprocAttr, f0, hbd]; refine hK _ _ ?_; clear hK K
   (with_reducible repeat first | apply q_n | apply q_e | apply q_r | apply bq_n | apply bq_e | apply bq_r | apply bq_o rfl)
   refine ⟨t.size - 1, by omega, rfl, (by simp only [wL, Nat.reduceBEq, f1]), _, (by simp only [wL, Nat.reduceBEq]; rfl), ?_, ?_, ?_⟩
   ·rw [ext_size _ _ _ (by omega)]; omega
   ·rw [← hall]
    conv => rhs; rw [hsplit]
    simp [hq]
   ·rw [ext_size _ _ _ (by omega)]
  | false =>
   refine w_true (by simp only [wL, Nat.reduceBEq, Bool.not_true, Bool.not_false, hq]) ?_
   refine w_exit ?_
   (with_reducible repeat first | apply q_n | apply q_e | apply q_r | apply bq_n | apply bq_e | apply bq_r | apply bq_o rfl)
   refine fin _ (by simp only [wL, Nat.reduceBEq, f0]) ?_
   have hne : ¬ t = .empty := by rw [empty_iff]; omega
   rw [← hall, hsplit]
   simp [hq, hne]
 ·refine w_reg fun K hK => ?_; simp (disch := omega) only [↓wD, wU, simprocAttr, f0, h0]; refine hK _ _ ?_; clear hK K
  refine wf ?_
  refine w_exit ?_
  (with_reducible repeat first | apply q_n | apply q_e | apply q_r | apply bq_n | apply bq_e | apply bq_r | apply bq_o rfl)
  refine fin _ (by simp only [wL, Nat.reduceBEq, f0]) ?_
  have he : t = .empty := by rw [empty_iff]; omega
  rw [← hall, he]
  rfl
end Go.WK
/-
 Acts.
-/
namespace Go.WK
open Go Go.Proofs

theorem SetAt.ext {H H' : Hp} {b : Nat} {l : List UInt8} (h : SetAt H b l) (hE : Ext H H') : SetAt H' b l := fun i hi => by
 have hb : b < H.size := cell_lt (h i hi).1
 rw [hE.cell _ _ hb]
 refine ⟨(h i hi).1, ?_⟩
 have := (h i hi).2
 unfold frz at this ⊢
 rw [hE.2 b hb]
 exact this
theorem Trim_cl {H : Hp} (s cs : ByteArray) (hs : Sz s) (hc : Sz cs) (h2 : 2 ≤ cs.size) (ha : ∀ c ∈ cs.data.toList, c.toNat < 128) : Cl Tryz.prog 189 [.string s, .string cs] H fun r H' => Ext H H' ∧ ∃ t, r = .string t ∧ decide (t = .empty) = s.data.toList.all (inSet cs.data.toList) := by
 refine cl_of mixed c_strings_Trim (Nat.le_of_ble_eq_true rfl) ?_
 simp only [fwp, ir_strings_Trim, argF, Nat.reduceAdd]
 have hne : ¬ cs = .empty := by rw [empty_iff]; omega
 have h1 : ((cs.size : Int) = 1) = False := by simp; omega
 have h1' : (cs.size = 1) = False := by simp; omega
 refine w_reg fun K hK => ?_; simp (disch := omega) only [↓wD, wU, simprocAttr]; refine hK _ _ ?_; clear hK K
 refine w_seq (w_seq ?_)
 by_cases h0 : s = .empty
 ·subst h0
  refine w_reg fun K hK => ?_; simp (disch := omega) only [↓wD, wU, simprocAttr]; refine hK _ _ ?_; clear hK K
  refine wt ?_
  refine w_reg fun K hK => ?_; simp (disch := omega) only [↓wD, wU, simprocAttr]; refine hK _ _ ?_; clear hK K
  refine w_ret ?_; (with_reducible repeat first | apply q_n | apply q_e | apply q_r | apply bq_n | apply bq_e | apply bq_r | apply bq_o rfl); refine ret1 (by (try simp only [wL, Nat.reduceBEq]); rfl) ?_
  exact ⟨Ext.refl _, _, rfl, rfl⟩
 refine w_reg fun K hK => ?_; simp (disch := omega) only [↓wD, wU, simprocAttr, h0, hne]; refine hK _ _ ?_; clear hK K
 refine wf ?_
 refine w_skip ?_
 (with_reducible repeat first | apply q_n | apply q_e | apply q_r | apply bq_n | apply bq_e | apply bq_r | apply bq_o rfl)
 refine w_seq (w_seq ?_)
 unfold Sz big at hs hc
 refine w_reg fun K hK => ?_; simp (disch := omega) only [↓wD, wU, simprocAttr, h1, h1']; refine hK _ _ ?_; clear hK K
 refine wf ?_
 refine w_skip ?_
 (with_reducible repeat first | apply q_n | apply q_e | apply q_r | apply bq_n | apply bq_e | apply bq_r | apply bq_o rfl)
 refine w_seq (w_seq ?_)
 refine w_reg fun K hK => ?_
 rw [r_s, i_mv, r_s, i_call]
 simp only [wL, Nat.reduceBEq, List.map_cons, List.map_nil]
 refine w_call (makeASCIISet_cl cs hc ha) ?_
 rintro _ H1 ⟨rfl, hE⟩
 obtain ⟨H2, hw, hW⟩ := wrn_ok (H := H1.push (.cells (setOf []).toArray 235)) (b := H1.size) (o := 0) (l := setOf cs.data.toList) (by rw [setOf_len]; exact (SetAt_new _ _).own) (setOf_one _)
 have hS : SetAt H2 H1.size cs.data.toList := SetAt.wrote hW fun i hi => frz_new _ _ _ _
 have hE2 : Ext H H2 := hW.ext (hE.push _) hE.size
 have hw' : wrn (H1.push (.cells ([Value.bool false, Value.bool false, Value.bool false, Value.bool false, Value.bool false, Value.bool false, Value.bool false, Value.bool false, Value.bool false, Value.bool false, Value.bool false, Value.bool false, Value.bool false, Value.bool false, Value.bool false, Value.bool false, Value.bool false, Value.bool false, Value.bool false, Value.bool false, Value.bool false, Value.bool false, Value.bool false, Value.bool false, Value.bool false, Value.bool false, Value.bool false, Value.bool false, Value.bool false, Value.bool false, Value.bool false, Value.bool false, Value.bool false, Value.bool false, Value.bool false, Value.bool false, Value.bool false, Value.bool false, Value.bool false, Value.bool false, Value.bool false, Value.bool false, Value.bool false, Value.bool false, Value.bool false, Value.bool false, Value.bool false, Value.bool false, Value.bool false, Value.bool false, Value.bool false, Value.bool false, Value.bool false, Value.bool false, Value.bool false, Value.bool false, Value.bool false, Value.bool false, Value.bool false, Value.bool false, Value.bool false, Value.bool false, Value.bool false, Value.bool false, Value.bool false, Value.bool false, Value.bool false, Value.bool false, Value.bool false, Value.bool false, Value.bool false, Value.bool false, Value.bool false, Value.bool false, Value.bool false, Value.bool false, Value.bool false, Value.bool false, Value.bool false, Value.bool false, Value.bool false, Value.bool false, Value.bool false, Value.bool false, Value.bool false, Value.bool false, Value.bool false, Value.bool false, Value.bool false, Value.bool false, Value.bool false, Value.bool false, Value.bool false, Value.bool false, Value.bool false, Value.bool false, Value.bool false, Value.bool false, Value.bool false, Value.bool false, Value.bool false, Value.bool false, Value.bool false, Value.bool false, Value.bool false, Value.bool false, Value.bool false, Value.bool false, Value.bool false, Value.bool false, Value.bool false, Value.bool false, Value.bool false, Value.bool false, Value.bool false, Value.bool false, Value.bool false, Value.bool false, Value.bool false, Value.bool false, Value.bool false, Value.bool false, Value.bool false, Value.bool false, Value.bool false, Value.bool false, Value.bool false, Value.bool false, Value.bool false, Value.bool false, Value.bool false, Value.bool false, Value.bool false, Value.bool false, Value.bool false, Value.bool false, Value.bool false, Value.bool false, Value.bool false, Value.bool false, Value.bool false, Value.bool false, Value.bool false, Value.bool false, Value.bool false, Value.bool false, Value.bool false, Value.bool false, Value.bool false, Value.bool false, Value.bool false, Value.bool false, Value.bool false, Value.bool false, Value.bool false, Value.bool false, Value.bool false, Value.bool false, Value.bool false, Value.bool false, Value.bool false, Value.bool false, Value.bool false, Value.bool false, Value.bool false, Value.bool false, Value.bool false, Value.bool false, Value.bool false, Value.bool false, Value.bool false, Value.bool false, Value.bool false, Value.bool false, Value.bool false, Value.bool false, Value.bool false, Value.bool false, Value.bool false, Value.bool false, Value.bool false, Value.bool false, Value.bool false, Value.bool false, Value.bool false, Value.bool false, Value.bool false, Value.bool false, Value.bool false, Value.bool false, Value.bool false, Value.bool false, Value.bool false, Value.bool false, Value.bool false, Value.bool false, Value.bool false, Value.bool false, Value.bool false, Value.bool false, Value.bool false, Value.bool false, Value.bool false, Value.bool false, Value.bool false, Value.bool false, Value.bool false, Value.bool false, Value.bool false, Value.bool false, Value.bool false, Value.bool false, Value.bool false, Value.bool false, Value.bool false, Value.bool false, Value.bool false, Value.bool false, Value.bool false, Value.bool false, Value.bool false, Value.bool false, Value.bool false, Value.bool false, Value.bool false, Value.bool false, Value.bool false, Value.bool false, Value.bool false, Value.bool false, Value.bool false, Value.bool false, Value.bool false, Value.bool false, Value.bool false, Value.bool false, Value.bool false, Value.bool false, Value.bool false, Value.bool false, Value.bool false, Value.bool false, Value.bool false, Value.bool false, Value.bool false, Value.bool false, Value.bool false, Value.bool false, Value.bool false, Value.bool false, Value.bool false, Value.bool false, Value.bool false, Value.bool false, Value.bool false, Value.bool false]).toArray 235)) H1.size 0 (setOf cs.data.toList) = some H2 := hw
 simp (disch := omega) only [↓wD, wU, simprocAttr, hw', setOf_len]
 refine hK _ _ ?_
 clear hK K
 clear hw hw'
 refine w_seq ?_
 refine w_reg fun K hK => ?_; simp (disch := omega) only [↓wD, wU, simprocAttr]; refine hK _ _ ?_; clear hK K
 refine wt ?_
 refine w_reg fun K hK => ?_
 simp (disch := omega) only [↓wD, wU, simprocAttr]
 refine w_call (trimR_cl hS s hs) ?_
 rintro _ _ ⟨rfl, t, rfl, ht, hq⟩
 simp (disch := omega) only [↓wD, wU, simprocAttr]
 refine w_call (trimL_cl hS t (Nat.le_trans ht hs)) ?_
 rintro _ _ ⟨rfl, u, rfl, hu⟩
 simp (disch := omega) only [↓wD, wU, simprocAttr]
 refine hK _ _ ?_
 clear hK K
 refine w_ret ?_; (with_reducible repeat first | apply q_n | apply q_e | apply q_r | apply bq_n | apply bq_e | apply bq_r | apply bq_o rfl); refine ret1 (by (try simp only [wL, Nat.reduceBEq]); rfl) ?_
 exact ⟨hE2, u, rfl, by rw [hu, hq]⟩
theorem Ext.pushM {A B : Hp} (h : Ext A B) (o : Obj) : Ext A (B.push o) := h.push o
def textB (s : ByteArray) : Bool := s.data.toList.all (inSet [97, 98, 99, 100, 101, 102, 103, 104, 105, 106, 107, 108, 109, 110, 111, 112, 113, 114, 115, 116, 117, 118, 119, 120, 121, 122, 48, 49, 50, 51, 52, 53, 54, 55, 56, 57, 45])
def actB (a : Ac) : Bool := isKey a.key && (if a.kind = 1 then decide (a.value = .empty) && decide (a.num = 0) else if a.kind = 2 then decide ((a.value.size : Int) ≤ 20) && textB a.value && decide (a.num = 0) else if a.kind = 3 then decide (a.value = .empty) && decide (a.num = cutI a.num) else false)
def hpA (H1 : Hp) (b1 b2 b3 : Bool) (rem : List Nat) (Hx : Hp) : Prop := (0 ∈ rem ∧ 2 ∈ rem ∧ 15 ∈ rem ∧ 27 ∈ rem ∧ Hx = H1) ∨ (0 ∉ rem ∧ ∃ es ck, Hx = H1.push (.map es ck) ∧ (∀ e ∈ es, key? (.i .u8) e.key = true) ∧ ∀ k : Int, mget (.int .u8 k) es = if k = 1 ∧ 2 ∉ rem then some (.bool b1) else if k = 2 ∧ 15 ∉ rem then some (.bool b2) else if k = 3 ∧ 27 ∉ rem then some (.bool b3) else none)
theorem hpA_erase {H1 : Hp} {b1 b2 b3 : Bool} {rem : List Nat} {Hx : Hp} {i : Nat} (h : hpA H1 b1 b2 b3 rem Hx) (h0 : 0 ≠ i) (h2 : 2 ≠ i) (h15 : 15 ≠ i) (h27 : 27 ≠ i) : hpA H1 b1 b2 b3 (rem.erase i) Hx := by
 unfold hpA at h ⊢
 simp only [List.mem_erase_of_ne h0, List.mem_erase_of_ne h2, List.mem_erase_of_ne h15, List.mem_erase_of_ne h27]
 exact h
theorem hpA_ext {H1 : Hp} {b1 b2 b3 : Bool} {rem : List Nat} {Hx : Hp} (h : hpA H1 b1 b2 b3 rem Hx) : Ext H1 Hx := by
 rcases h with ⟨_, _, _, _, rfl⟩ | ⟨_, es, ck, rfl, _⟩
 ·exact Ext.refl _
 ·exact (Ext.refl _).push _

theorem right_cl {H : Hp} {cs : List Value} {a : Ac} (he : ElAc cs a) : Cl Tryz.prog 160 [.agg cs.toArray] H fun r H' => r = .bool (actB a) ∧ Ext H H' := by
 refine cl_of mixed c_act_right (Nat.le_of_ble_eq_true rfl) ?_
 simp only [fwp, ir_act_right, argF, Nat.reduceAdd]
 obtain ⟨rfl, hk, hn, hs1, hs2⟩ := he
 refine w_reg fun K hK => ?_; simp (disch := omega) only [↓wD, wU, simprocAttr]; refine hK _ _ ?_; clear hK K
 generalize hH0 : H.push (.cells #[.int .u8 a.kind, .string a.key, .string a.value, .int .i64 a.num] 98) = H0
 have hE0 : Ext H H0 := by subst hH0; exact (Ext.refl _).push _
 have hc : rdn H0 H.size 0 4 = some [.int .u8 a.kind, .string a.key, .string a.value, .int .i64 a.num] := by subst hH0; exact rdn_new H _ 98 0 4 (Nat.le_refl _)
 obtain ⟨c0, c1, c2, c3⟩ := rdn4 hc
 have hlt := cell_lt c0
 clear hH0
 have hz : ((0 : Int) = 0) = True := by simp
 refine w_cut (fun f H' => H' = H0 ∧ f 1 = .pointer (some ⟨H.size, 0, none⟩) ∧ f 3 = .bool (decide (a.value = .empty) && decide (a.num = 0))) ?_ ?_
 ·by_cases e1 : a.value = .empty <;> by_cases e2 : a.num = 0
  all_goals
   refine w_reg1 fun K hK => ?_; simp (disch := omega) only [↓wD, wU, simprocAttr, c2, c3, e1, e2]; refine hK _ _ ?_; clear hK K
   (with_reducible repeat first | apply q_n | apply q_e | apply q_r | apply bq_n | apply bq_e | apply bq_r | apply bq_o rfl)
   exact ⟨rfl, (by simp only [wL, Nat.reduceBEq]), by simp only [wL, Nat.reduceBEq]; simp [e1, e2]⟩
 rintro f _ ⟨rfl, f1, f3⟩
 refine w_reg fun K hK => ?_
 simp (disch := omega) only [↓wD, wU, simprocAttr, f1, c2]
 refine w_call (Trim_cl a.value _ hs2 (by unfold Sz big; decide) (by decide) (by decide)) ?_
 rintro _ H1 ⟨hE1, t, rfl, ht⟩
 have hty : decide (t = .empty) = textB a.value := ht
 simp (disch := omega) only [↓wD, wU, simprocAttr, hty]
 refine hK _ _ ?_
 clear hK K
 clear ht hty
 have hx1 := hE1.cell
 have c0' := (hx1 H.size 0 hlt).trans c0
 have c1' := (hx1 H.size (0 + 1) hlt).trans c1
 have c2' := (hx1 H.size (0 + 2) hlt).trans c2
 have c3' := (hx1 H.size (0 + 3) hlt).trans c3
 have hltb : H.size < H1.size := Nat.lt_of_lt_of_le hlt hE1.size
 clear hx1
 generalize hb1 : (decide (a.value = .empty) && decide (a.num = 0)) = b1 at f3
 generalize hsz : decide ((a.value.size : Int) ≤ 20) = sz
 generalize htx : textB a.value = tx
 generalize hnz : decide (a.num = 0) = nz
 generalize hem : decide (a.value = .empty) = em
 generalize hcn : decide (a.num = cutI a.num) = cn
 refine w_drwD (vt [(18, .map (some H1.size)), (19, .bool b1), (20, .pointer (some ⟨H.size, 0 + 2, none⟩)), (21, .string a.value), (22, .int .i64 a.value.size), (23, .bool sz), (24, .bool sz), (25, bif sz then .bool tx else undef), (26, .bool (sz && tx)), (27, .bool (sz && tx)),
  (28, bif sz && tx then .pointer (some ⟨H.size, 0 + 3, none⟩) else undef), (29, bif sz && tx then .int .i64 a.num else undef), (30, bif sz && tx then .bool nz else undef), (31, .bool (sz && tx && nz)), (32, .pointer (some ⟨H.size, 0 + 2, none⟩)), (33, .string a.value), (34, .bool em), (35, .bool em),
  (36, bif em then .pointer (some ⟨H.size, 0 + 3, none⟩) else undef), (37, bif em then .int .i64 a.num else undef), (38, bif em then .pointer (some ⟨H.size, 0 + 3, none⟩) else undef), (39, bif em then .int .i64 a.num else undef), (40, bif em then .int .i64 (cutI a.num) else undef), (41, bif em then .bool cn else undef), (42, .bool (em && cn)), (43, .map (some H1.size)), (5, .map (some H1.size))])
  (hpA H1 b1 (sz && tx && nz) (em && cn)) [1, 3, 4] (ds := [some 18, some 19, none, some 20, some 21, some 22, some 23, some 24, some 25, some 26, some 27, some 28, some 29, some 30, some 31, none, some 32, some 33, some 34, some 35, some 36, some 37, some 38, some 39, some 40, some 41, some 42, none, some 43, some 5]) rfl (by decide) ?_ ?_ ?_
 ·simp only [allIdx, Nat.reduceAdd]
  and_intros
  all_goals (try exact trivial)
  all_goals
   intro rem f' Hx hnr hmem hnot hok hin hh
   have hEx := hpA_ext hh
   have d2 := (hEx.cell H.size (0 + 2) hltb).trans c2'
   have d3 := (hEx.cell H.size (0 + 3) hltb).trans c3'
   simp only [↓ow_s, ↓ow_e, ↓ow_g, ↓gv_u, d_s, d_g, d_e, vt_cons, vt_nil, List.forall_mem_cons, slotD, wL, Nat.reduceBEq, Nat.reduceAdd, List.getElem?_cons_zero, List.getElem?_cons_succ, and_true, List.not_mem_nil, false_implies, implies_true] at hok hin
  all_goals
   first
   | (simp (disch := omega) only [↓ow_s, ↓ow_e, ↓ow_g, ↓gv_u, d_s, d_g, d_e, vt_cons, vt_nil, List.forall_mem_cons, slotD, ↓wD, wU, simprocAttr, hok, hin, d2, d3, f1, f3, hsz, hem, hnz, hcn]; exact hpA_erase hh (by decide) (by decide) (by decide) (by decide))
   | (cases em <;> (simp (disch := omega) only [↓ow_s, ↓ow_e, ↓ow_g, ↓gv_u, d_s, d_g, d_e, vt_cons, vt_nil, List.forall_mem_cons, slotD, ↓wD, wU, simprocAttr, hok, hin, d2, d3, f1, f3, hsz, hem, hnz, hcn]; exact hpA_erase hh (by decide) (by decide) (by decide) (by decide)))
   | (cases em <;> cases cn <;> (simp (disch := omega) only [↓ow_s, ↓ow_e, ↓ow_g, ↓gv_u, d_s, d_g, d_e, vt_cons, vt_nil, List.forall_mem_cons, slotD, ↓wD, wU, simprocAttr, hok, hin, d2, d3, f1, f3, hsz, hem, hnz, hcn]; exact hpA_erase hh (by decide) (by decide) (by decide) (by decide)))
   | (cases sz <;> cases tx <;> (simp (disch := omega) only [↓ow_s, ↓ow_e, ↓ow_g, ↓gv_u, d_s, d_g, d_e, vt_cons, vt_nil, List.forall_mem_cons, slotD, ↓wD, wU, simprocAttr, hok, hin, d2, d3, f1, f3, hsz, hem, hnz, hcn]; exact hpA_erase hh (by decide) (by decide) (by decide) (by decide)))
   | (cases sz <;> cases tx <;> cases nz <;> (simp (disch := omega) only [↓ow_s, ↓ow_e, ↓ow_g, ↓gv_u, d_s, d_g, d_e, vt_cons, vt_nil, List.forall_mem_cons, slotD, ↓wD, wU, simprocAttr, hok, hin, d2, d3, f1, f3, hsz, hem, hnz, hcn]; exact hpA_erase hh (by decide) (by decide) (by decide) (by decide)))
   | skip
  ·rcases hh with ⟨h0, h2, h15, h27, rfl⟩ | ⟨h0, _⟩
   ·rw [ow_s, i_mkm]
    refine ⟨by simp only [d_s, vt_cons, Nat.reduceBEq, cond_true], .inr ⟨hnr.not_mem_erase, #[], 0, rfl, by simp, ?_⟩⟩
    intro k
    simp only [List.mem_erase_of_ne (show (2 : Nat) ≠ 0 by decide), List.mem_erase_of_ne (show (15 : Nat) ≠ 0 by decide), List.mem_erase_of_ne (show (27 : Nat) ≠ 0 by decide), h2, h15, h27, not_true_eq_false, and_false, if_false]
    rfl
   ·exact absurd hmem h0
  ·rcases hh with ⟨h0, _⟩ | ⟨h0, es, ck, rfl, hes, hget⟩
   ·exact absurd h0 (hnot 0 (by simp))
   rw [ow_e]
   refine mup_new (by simp only [wL, Nat.reduceBEq, hok]) rfl hes (by have := hget 1; simpa [hmem, ev] using this) ?_
   refine ⟨rfl, .inr ⟨fun h => h0 (List.mem_of_mem_erase h), _, _, rfl, ?_, ?_⟩⟩
   ·intro e he
    rcases Array.mem_push.1 he with he | rfl
    ·exact hes e he
    ·rfl
   ·intro k
    have hni : 2 ∉ rem.erase 2 := hnr.not_mem_erase
    rw [mget_push, hget k]
    simp only [List.mem_erase_of_ne (show (15 : Nat) ≠ 2 by decide), List.mem_erase_of_ne (show (27 : Nat) ≠ 2 by decide), hni, hmem, not_true_eq_false, and_false, if_false, not_false_eq_true, and_true, ev_const, ev_tmp, keyEq, hok, decide_true, Bool.true_and, decide_eq_true_eq]
    by_cases k1 : k = 1
    ·subst k1; simp [hmem] <;> (repeat' split) <;> simp_all
    ·by_cases k2 : k = 2
     ·subst k2; simp [hmem] <;> (repeat' split) <;> simp_all
     ·by_cases k3 : k = 3
      ·subst k3; simp [hmem] <;> (repeat' split) <;> simp_all
      ·simp [k1, k2, k3]
  ·rcases hh with ⟨h0, _⟩ | ⟨h0, es, ck, rfl, hes, hget⟩
   ·exact absurd h0 (hnot 0 (by simp))
   rw [ow_e]
   refine mup_new (by simp only [wL, Nat.reduceBEq, hok]) rfl hes (by have := hget 2; simpa [hmem, ev] using this) ?_
   refine ⟨rfl, .inr ⟨fun h => h0 (List.mem_of_mem_erase h), _, _, rfl, ?_, ?_⟩⟩
   ·intro e he
    rcases Array.mem_push.1 he with he | rfl
    ·exact hes e he
    ·rfl
   ·intro k
    have hni : 15 ∉ rem.erase 15 := hnr.not_mem_erase
    rw [mget_push, hget k]
    simp only [List.mem_erase_of_ne (show (2 : Nat) ≠ 15 by decide), List.mem_erase_of_ne (show (27 : Nat) ≠ 15 by decide), hni, hmem, not_true_eq_false, and_false, if_false, not_false_eq_true, and_true, ev_const, ev_tmp, keyEq, hok, decide_true, Bool.true_and, decide_eq_true_eq]
    by_cases k1 : k = 1
    ·subst k1; simp [hmem] <;> (repeat' split) <;> simp_all
    ·by_cases k2 : k = 2
     ·subst k2; simp [hmem] <;> (repeat' split) <;> simp_all
     ·by_cases k3 : k = 3
      ·subst k3; simp [hmem] <;> (repeat' split) <;> simp_all
      ·simp [k1, k2, k3]
  ·cases em
   ·simp (disch := omega) only [↓ow_s, ↓ow_e, ↓ow_g, ↓gv_u, d_s, d_g, d_e, vt_cons, vt_nil, List.forall_mem_cons, slotD, ↓wD, wU, simprocAttr, hok]
    exact hpA_erase hh (by decide) (by decide) (by decide) (by decide)
   ·simp (disch := omega) only [↓ow_s, ↓ow_e, ↓ow_g, ↓gv_u, d_s, d_g, d_e, vt_cons, vt_nil, List.forall_mem_cons, slotD, ↓wD, wU, simprocAttr, hok]
    refine w_call (cut_cl _ hn) ?_
    rintro _ _ ⟨rfl, rfl⟩
    simp only [↓ow_s, ↓ow_e, ↓ow_g, ↓gv_u, d_s, d_g, d_e, vt_cons, vt_nil, List.forall_mem_cons, slotD, ↓wD, wU, simprocAttr]
    exact hpA_erase hh (by decide) (by decide) (by decide) (by decide)
  ·rcases hh with ⟨h0, _⟩ | ⟨h0, es, ck, rfl, hes, hget⟩
   ·exact absurd h0 (hnot 0 (by simp))
   rw [ow_e]
   refine mup_new (by simp only [wL, Nat.reduceBEq, hok]) rfl hes (by have := hget 3; simpa [hmem, ev] using this) ?_
   refine ⟨rfl, .inr ⟨fun h => h0 (List.mem_of_mem_erase h), _, _, rfl, ?_, ?_⟩⟩
   ·intro e he
    rcases Array.mem_push.1 he with he | rfl
    ·exact hes e he
    ·rfl
   ·intro k
    have hni : 27 ∉ rem.erase 27 := hnr.not_mem_erase
    rw [mget_push, hget k]
    simp only [List.mem_erase_of_ne (show (2 : Nat) ≠ 27 by decide), List.mem_erase_of_ne (show (15 : Nat) ≠ 27 by decide), hni, hmem, not_true_eq_false, and_false, if_false, not_false_eq_true, and_true, ev_const, ev_tmp, keyEq, hok, decide_true, Bool.true_and, decide_eq_true_eq]
    by_cases k1 : k = 1
    ·subst k1; simp [hmem] <;> (repeat' split) <;> simp_all
    ·by_cases k2 : k = 2
     ·subst k2; simp [hmem] <;> (repeat' split) <;> simp_all
     ·by_cases k3 : k = 3
      ·subst k3; simp [hmem] <;> (repeat' split) <;> simp_all
      ·simp [k1, k2, k3]
 ·exact .inl ⟨by simp, by simp, by simp, by simp, rfl⟩
 ·rintro g Hx hg hg2 hh
  rcases hh with ⟨h0, _⟩ | ⟨_, es, ck, rfl, hes, hget⟩
  ·simp at h0
  have g5 : g 5 = .map (some H1.size) := hg 29
  have g1 : g 1 = .pointer (some ⟨H.size, 0, none⟩) := by rw [hg2 1 (by decide)]; simp only [wL, Nat.reduceBEq, f1]
  clear hg hg2
  have hlk := @mget_look (.int .u8 a.kind) es (.bool false) false
  rw [hget a.kind] at hlk
  refine w_reg fun K hK => ?_
  simp (disch := omega) only [↓wD, wU, simprocAttr, g1, c0', c1']
  refine w_call (Key_cl a.key hs1) ?_
  rintro _ _ ⟨rfl, rfl⟩
  have hfin : Ext H (H1.push (.map es ck)) := Ext.push (((Ext.refl H).trans hE0).trans hE1) _
  cases hkey : isKey a.key with
  | false =>
   simp (disch := omega) only [↓wD, wU, simprocAttr]
   refine hK _ _ ?_
   clear hK K
   refine w_ret ?_; (with_reducible repeat first | apply q_n | apply q_e | apply q_r | apply bq_n | apply bq_e | apply bq_r | apply bq_o rfl); refine ret1 (by (try simp only [wL, Nat.reduceBEq]); rfl) ?_
   exact ⟨by simp [actB, hkey], hfin⟩
  | true =>
   have hes' : (∀ e ∈ es, key? (.i .u8) e.key = true) = True := eq_true hes
   have hkk : key? (.i .u8) (.int .u8 a.kind) = true := rfl
   have hlk' : lookV (.bool false) false (findE (.int .u8 a.kind) es.toList 0) = .bool (if a.kind = 1 then b1 else if a.kind = 2 then sz && tx && nz else if a.kind = 3 then em && cn else false) := by
    rw [hlk]
    simp only [List.not_mem_nil, not_false_eq_true, and_true]
    by_cases k1 : a.kind = 1
    ·simp [k1]
    ·by_cases k2 : a.kind = 2
     ·simp [k2]
     ·by_cases k3 : a.kind = 3
      ·simp [k3]
      ·simp [k1, k2, k3]
   simp (disch := omega) only [↓wD, wU, simprocAttr, g1, g5, i_mlk, getp, c0', hkk, hes', hlk']
   refine hK _ _ ?_
   clear hK K
   refine w_ret ?_; (with_reducible repeat first | apply q_n | apply q_e | apply q_r | apply bq_n | apply bq_e | apply bq_r | apply bq_o rfl); refine ret1 (by (try simp only [wL, Nat.reduceBEq]); rfl) ?_
   refine ⟨?_, hfin⟩
   subst hb1 hsz htx hnz hem hcn
   simp only [actB, hkey, Bool.true_and]
end Go.WK
namespace Go.WK
open Go Go.Proofs

theorem ActsOf_cl {S : Nat → Prop} {H : Hp} {v : Value} {l : List Ac} (m : Int) (hv : AcSl S H v l) : Cl Tryz.prog 47 [v, .int .i64 m] H fun r H' => H' = H ∧ ∃ n, r = .int .i64 n := by
 refine cl_of mixed c_watershedkit_ActsOf (Nat.le_of_ble_eq_true rfl) ?_
 simp only [fwp, ir_watershedkit_ActsOf, argF, Nat.reduceAdd]
 obtain ⟨a, c, rfl, hc, hl, hel⟩ := SlP.open hv
 clear hv
 refine w_reg fun K hK => ?_; simp (disch := omega) only [↓wD, wU, simprocAttr]; refine hK _ _ ?_; clear hK K
 refine w_reg fun K hK => ?_; simp (disch := omega) only [↓wD, wU, simprocAttr]; refine hK _ _ ?_; clear hK K
 refine w_seq ?_
 refine w_reg fun K hK => ?_; simp (disch := omega) only [↓wD, wU, simprocAttr]; refine hK _ _ ?_; clear hK K
 refine w_blk (w_loop (fun n f H' => H' = H ∧ f 0 = .slice a l.length c ∧ f 1 = .int .i64 m ∧ ∃ (i : Nat) (x : Int), f 6 = .int .i64 i ∧ i ≤ l.length ∧ f 5 = .int .i64 x ∧ n = l.length - i) _ ⟨rfl, rfl, rfl, 0, 0, rfl, Nat.zero_le _, rfl, rfl⟩ ?_)
 rintro n f H' ⟨rfl, f0, f1, i, x, f6, hi, f5, rfl⟩
 refine w_seq (w_seq ?_)
 have fin : ∀ g : Fr, g 5 = .int .i64 x → cwp Tryz.prog ((C.reg [O.s 36 (I.mv (Operand.tmp 5)), O.s 4 (I.mv (Operand.tmp 36))]).seq C.ret) g H' (retQ [RV.t 4] fun r H'_1 => H'_1 = H' ∧ ∃ n, r = Value.int IntKind.i64 n) := by
  intro g g5
  refine w_reg fun K hK => ?_; simp (disch := omega) only [↓wD, wU, simprocAttr, g5]; refine hK _ _ ?_; clear hK K
  refine w_ret ?_; (with_reducible repeat first | apply q_n | apply q_e | apply q_r | apply bq_n | apply bq_e | apply bq_r | apply bq_o rfl); refine ret1 (by (try simp only [wL, Nat.reduceBEq]); rfl) ?_
  exact ⟨rfl, _, rfl⟩
 by_cases hlt : i < l.length
 ·obtain ⟨b, o, rfl, hS, cs, hcs, rfl, hk, hn, hs1, hs2⟩ := hel i hlt
  obtain ⟨c0, c1, c2, c3⟩ := rdn4 hcs
  by_cases hx : x ≤ m
  ·refine w_reg fun K hK => ?_; simp (disch := omega) only [↓wD, wU, simprocAttr, f0, f1, f5, f6, hlt, hx]; refine hK _ _ ?_; clear hK K
   refine wt ?_
   refine w_skip ?_
   (with_reducible repeat first | apply q_n | apply q_e | apply q_r | apply bq_n | apply bq_e | apply bq_r | apply bq_o rfl)
   refine w_seq (w_blk ?_)
   refine w_reg1 fun K hK => ?_; simp (disch := omega) only [↓wD, wU, simprocAttr, f0, f1, f5, f6, hlt, hx, c1, c2]; refine hK _ _ ?_; clear hK K
   (with_reducible repeat first | apply q_n | apply q_e | apply q_r | apply bq_n | apply bq_e | apply bq_r | apply bq_o rfl)
   refine w_reg1 fun K hK => ?_; simp (disch := omega) only [↓wD, wU, simprocAttr, f0, f1, f5, f6, hlt, hx, c1, c2]; refine hK _ _ ?_; clear hK K
   (with_reducible repeat first | apply q_n | apply q_e | apply q_r | apply bq_n | apply bq_e | apply bq_r | apply bq_o rfl)
   exact ⟨l.length - (i + 1), by omega, rfl, (by simp only [wL, Nat.reduceBEq, f0]), (by simp only [wL, Nat.reduceBEq, f1]), i + 1, _, (by simp only [wL, Nat.reduceBEq]), by omega, (by simp only [wL, Nat.reduceBEq]; rfl), rfl⟩
  ·refine w_reg fun K hK => ?_; simp (disch := omega) only [↓wD, wU, simprocAttr, f0, f1, f5, f6, hlt, hx]; refine hK _ _ ?_; clear hK K
   refine wf ?_
   refine w_exit ?_
   (with_reducible repeat first | apply q_n | apply q_e | apply q_r | apply bq_n | apply bq_e | apply bq_r | apply bq_o rfl)
   refine fin _ ?_
   simp only [wL, Nat.reduceBEq, f5]
 ·refine w_reg fun K hK => ?_; simp (disch := omega) only [↓wD, wU, simprocAttr, f0, f1, f5, f6, hlt]; refine hK _ _ ?_; clear hK K
  refine wf ?_
  refine w_exit ?_
  (with_reducible repeat first | apply q_n | apply q_e | apply q_r | apply bq_n | apply bq_e | apply bq_r | apply bq_o rfl)
  refine fin _ ?_
  simp only [wL, Nat.reduceBEq, f5]
end Go.WK
/-
 Holds that are the same; how many parts.
-/
namespace Go.WK
open Go Go.Proofs
theorem SameHold_cl {S S' : Nat → Prop} {H : Hp} {cs cs' : List Value} {h h' : Hd} (hv : ElHd S H cs h) (hu : ElHd S' H cs' h') : Cl Tryz.prog 18 [.agg cs.toArray, .agg cs'.toArray] H fun r H' => r = .bool (decide (h = h')) ∧ Ext H H' := by
 refine cl_of mixed c_watershedkit_SameHold (Nat.le_of_ble_eq_true rfl) ?_
 simp only [fwp, ir_watershedkit_SameHold, argF, Nat.reduceAdd]
 obtain ⟨va, vr, rfl, ha, hr, hrest⟩ := hv
 obtain ⟨va', vr', rfl, ha', hr', hrest'⟩ := hu
 clear hrest hrest'
 refine w_reg fun K hK => ?_; simp (disch := omega) only [↓wD, wU, simprocAttr]; refine hK _ _ ?_; clear hK K
 refine w_reg fun K hK => ?_
 by_cases e1 : h.key = h'.key
 case neg =>
  simp (disch := omega) only [↓wD, wU, simprocAttr, e1]
  refine hK _ _ ?_
  clear hK K
  refine w_ret ?_; (with_reducible repeat first | apply q_n | apply q_e | apply q_r | apply bq_n | apply bq_e | apply bq_r | apply bq_o rfl); refine ret1 (by (try simp only [wL, Nat.reduceBEq]); rfl) ?_
  refine ⟨by rw [decide_eq_false (fun e => e1 (by rw [e]))], ?_⟩
  repeat (first | exact Ext.refl _ | assumption | (refine Ext.trans ?_ (by assumption)) | refine Ext.push ?_ _ | refine Ext.putc ?_ (by first | omega | (simp only [Array.size_push, putc_size]; omega)) _ _)
 by_cases e2 : h.name.client = h'.name.client
 case neg =>
  simp (disch := omega) only [↓wD, wU, simprocAttr, e1, e2, leavesEq, leafEq]
  refine hK _ _ ?_
  clear hK K
  refine w_ret ?_; (with_reducible repeat first | apply q_n | apply q_e | apply q_r | apply bq_n | apply bq_e | apply bq_r | apply bq_o rfl); refine ret1 (by (try simp only [wL, Nat.reduceBEq]); rfl) ?_
  refine ⟨by rw [decide_eq_false (fun e => e2 (by rw [e]))], ?_⟩
  repeat (first | exact Ext.refl _ | assumption | (refine Ext.trans ?_ (by assumption)) | refine Ext.push ?_ _ | refine Ext.putc ?_ (by first | omega | (simp only [Array.size_push, putc_size]; omega)) _ _)
 by_cases e3 : h.name.num = h'.name.num
 case neg =>
  simp (disch := omega) only [↓wD, wU, simprocAttr, e1, e2, e3, leavesEq, leafEq]
  refine hK _ _ ?_
  clear hK K
  refine w_ret ?_; (with_reducible repeat first | apply q_n | apply q_e | apply q_r | apply bq_n | apply bq_e | apply bq_r | apply bq_o rfl); refine ret1 (by (try simp only [wL, Nat.reduceBEq]); rfl) ?_
  refine ⟨by rw [decide_eq_false (fun e => e3 (by rw [e]))], ?_⟩
  repeat (first | exact Ext.refl _ | assumption | (refine Ext.trans ?_ (by assumption)) | refine Ext.push ?_ _ | refine Ext.putc ?_ (by first | omega | (simp only [Array.size_push, putc_size]; omega)) _ _)
 simp (disch := omega) only [↓wD, wU, simprocAttr, e1, e2, e3, leavesEq, leafEq]
 refine w_call (SameActs_cl (S := S) (S' := S') (l := h.acts) (m := h'.acts) (ha.ext (((Ext.refl _).push _).push _)) (ha'.ext (((Ext.refl _).push _).push _))) ?_
 rintro _ H1 ⟨rfl, rfl⟩
 by_cases e4 : h.acts = h'.acts
 case neg =>
  simp (disch := omega) only [↓wD, wU, simprocAttr, e4]
  refine hK _ _ ?_
  clear hK K
  refine w_ret ?_; (with_reducible repeat first | apply q_n | apply q_e | apply q_r | apply bq_n | apply bq_e | apply bq_r | apply bq_o rfl); refine ret1 (by (try simp only [wL, Nat.reduceBEq]); rfl) ?_
  refine ⟨by rw [decide_eq_false (fun e => e4 (by rw [e]))], ?_⟩
  repeat (first | exact Ext.refl _ | assumption | (refine Ext.trans ?_ (by assumption)) | refine Ext.push ?_ _ | refine Ext.putc ?_ (by first | omega | (simp only [Array.size_push, putc_size]; omega)) _ _)
 simp (disch := omega) only [↓wD, wU, simprocAttr, e4]
 refine w_call (SameReads_cl (S := S) (S' := S') (l := h.reads) (m := h'.reads) (hr.ext (((Ext.refl _).push _).push _)) (hr'.ext (((Ext.refl _).push _).push _))) ?_
 rintro _ H1 ⟨rfl, rfl⟩
 by_cases e5 : h.reads = h'.reads
 case neg =>
  simp (disch := omega) only [↓wD, wU, simprocAttr, e4, e5]
  refine hK _ _ ?_
  clear hK K
  refine w_ret ?_; (with_reducible repeat first | apply q_n | apply q_e | apply q_r | apply bq_n | apply bq_e | apply bq_r | apply bq_o rfl); refine ret1 (by (try simp only [wL, Nat.reduceBEq]); rfl) ?_
  refine ⟨by rw [decide_eq_false (fun e => e5 (by rw [e]))], ?_⟩
  repeat (first | exact Ext.refl _ | assumption | (refine Ext.trans ?_ (by assumption)) | refine Ext.push ?_ _ | refine Ext.putc ?_ (by first | omega | (simp only [Array.size_push, putc_size]; omega)) _ _)
 by_cases e6 : h.put = h'.put
 case neg =>
  simp (disch := omega) only [↓wD, wU, simprocAttr, e4, e5, e6]
  refine hK _ _ ?_
  clear hK K
  refine w_ret ?_; (with_reducible repeat first | apply q_n | apply q_e | apply q_r | apply bq_n | apply bq_e | apply bq_r | apply bq_o rfl); refine ret1 (by (try simp only [wL, Nat.reduceBEq]); rfl) ?_
  refine ⟨by rw [decide_eq_false (fun e => e6 (by rw [e]))], ?_⟩
  repeat (first | exact Ext.refl _ | assumption | (refine Ext.trans ?_ (by assumption)) | refine Ext.push ?_ _ | refine Ext.putc ?_ (by first | omega | (simp only [Array.size_push, putc_size]; omega)) _ _)
 simp (disch := omega) only [↓wD, wU, simprocAttr, e4, e5, e6]
 refine hK _ _ ?_
 clear hK K
 refine w_ret ?_; (with_reducible repeat first | apply q_n | apply q_e | apply q_r | apply bq_n | apply bq_e | apply bq_r | apply bq_o rfl); refine ret1 (by (try simp only [wL, Nat.reduceBEq]); rfl) ?_
 refine ⟨?_, ?_⟩
 ·congr 1
  apply decide_eq_decide.2
  obtain ⟨k, ⟨n1, n2⟩, a, r, p, x⟩ := h
  obtain ⟨k', ⟨n1', n2'⟩, a', r', p', x'⟩ := h'
  simp only at e1 e2 e3 e4 e5 e6
  subst e1 e2 e3 e4 e5 e6
  simp
 ·repeat (first | exact Ext.refl _ | assumption | (refine Ext.trans ?_ (by assumption)) | refine Ext.push ?_ _ | refine Ext.putc ?_ (by first | omega | (simp only [Array.size_push, putc_size]; omega)) _ _)

theorem readBad_cl {H : Hp} {cs : List Value} {r : Rd} (b k : Nat) (s : ByteArray) (hk : cell H b k = some (.string s)) (he : ElRd cs r) : Cl Tryz.prog 126 [.agg cs.toArray, .pointer (some ⟨b, k, none⟩)] H fun v H' => v = .bool (!decide (r.key = s) || decide (20 < r.value.size) || (!r.is && !decide (r.value = .empty))) ∧ Ext H H' := by
 refine cl_of mixed c_holds_right_1 (Nat.le_of_ble_eq_true rfl) ?_
 simp only [fwp, ir_holds_right_1, argF, Nat.reduceAdd]
 obtain ⟨rfl, h1, h2⟩ := he
 refine w_reg fun K hK => ?_; simp (disch := omega) only [↓wD, wU, simprocAttr]; refine hK _ _ ?_; clear hK K
 have hlt := cell_lt hk
 obtain ⟨rk, ri, rv⟩ := r
 by_cases e4 : rv = .empty
 ·subst e4
  have e2 : ((20 : Int) < ByteArray.empty.size) = False := by simp
  by_cases e1 : rk = s <;> cases ri
  all_goals
   refine w_reg fun K hK => ?_; simp (disch := omega) only [↓wD, wU, simprocAttr, e1, e2, hk]; refine hK _ _ ?_; clear hK K
   refine w_ret ?_; (with_reducible repeat first | apply q_n | apply q_e | apply q_r | apply bq_n | apply bq_e | apply bq_r | apply bq_o rfl); refine ret1 (by (try simp only [wL, Nat.reduceBEq]); rfl) ?_
   refine ⟨by simp [e1, e2], ?_⟩
   repeat (first | exact Ext.refl _ | assumption | (refine Ext.trans ?_ (by assumption)) | refine Ext.push ?_ _ | refine Ext.putc ?_ (by first | omega | (simp only [Array.size_push, putc_size]; omega)) _ _)
 by_cases e1 : rk = s <;> by_cases e2 : (20 : Int) < rv.size <;> cases ri
 all_goals
  have e2' : decide (20 < rv.size) = decide ((20 : Int) < rv.size) := by congr 1; simp; omega
  refine w_reg fun K hK => ?_; simp (disch := omega) only [↓wD, wU, simprocAttr, e1, e2, e4, hk]; refine hK _ _ ?_; clear hK K
  refine w_ret ?_; (with_reducible repeat first | apply q_n | apply q_e | apply q_r | apply bq_n | apply bq_e | apply bq_r | apply bq_o rfl); refine ret1 (by (try simp only [wL, Nat.reduceBEq]); rfl) ?_
  refine ⟨by simp [e1, e2, e2', e4], ?_⟩
  repeat (first | exact Ext.refl _ | assumption | (refine Ext.trans ?_ (by assumption)) | refine Ext.push ?_ _ | refine Ext.putc ?_ (by first | omega | (simp only [Array.size_push, putc_size]; omega)) _ _)
theorem HoldsOf_cl {S : Nat → Prop} {H : Hp} {v : Value} {l : List Hd} (m : Int) (hv : HdSl S H v l) : Cl Tryz.prog 10 [v, .int .i64 m] H fun r H' => H' = H ∧ ∃ n, r = .int .i64 n := by
 refine cl_of mixed c_watershedkit_HoldsOf (Nat.le_of_ble_eq_true rfl) ?_
 simp only [fwp, ir_watershedkit_HoldsOf, argF, Nat.reduceAdd]
 obtain ⟨a, c, rfl, hc, hl, hel⟩ := SlP.open hv
 clear hv
 refine w_reg fun K hK => ?_; simp (disch := omega) only [↓wD, wU, simprocAttr]; refine hK _ _ ?_; clear hK K
 refine w_reg fun K hK => ?_; simp (disch := omega) only [↓wD, wU, simprocAttr]; refine hK _ _ ?_; clear hK K
 refine w_seq ?_
 refine w_seq ?_
 refine w_reg fun K hK => ?_; simp (disch := omega) only [↓wD, wU, simprocAttr]; refine hK _ _ ?_; clear hK K
 refine w_blk (w_loop (fun n f H' => H' = H ∧ f 0 = .slice a l.length c ∧ f 1 = .int .i64 m ∧ ∃ (i : Nat) (x : Int), f 6 = .int .i64 i ∧ i ≤ l.length ∧ f 5 = .int .i64 x ∧ n = l.length - i) _ ⟨rfl, rfl, rfl, 0, 0, rfl, Nat.zero_le _, rfl, rfl⟩ ?_)
 rintro n f H' ⟨rfl, f0, f1, i, x, f6, hi, f5, rfl⟩
 refine w_seq (w_seq ?_)
 have fin : ∀ g : Fr, g 5 = .int .i64 x → cwp Tryz.prog ((C.reg [O.s 86 (I.mv (Operand.tmp 5)), O.s 4 (I.mv (Operand.tmp 86))]).seq C.ret) g H' (retQ [RV.t 4] fun r H'_1 => H'_1 = H' ∧ ∃ n, r = Value.int IntKind.i64 n) := by
  intro g g5
  refine w_reg fun K hK => ?_; simp (disch := omega) only [↓wD, wU, simprocAttr, g5]; refine hK _ _ ?_; clear hK K
  refine w_ret ?_; (with_reducible repeat first | apply q_n | apply q_e | apply q_r | apply bq_n | apply bq_e | apply bq_r | apply bq_o rfl); refine ret1 (by (try simp only [wL, Nat.reduceBEq]); rfl) ?_
  exact ⟨rfl, _, rfl⟩
 by_cases hlt : i < l.length
 ·obtain ⟨b, o, rfl, hS, cs, hcs, va, vr, rfl, ha, hr, hrest⟩ := hel i hlt
  obtain ⟨c0, c1, c2, c3, c4, c5, c6⟩ := rdn7 hcs
  by_cases hx : x ≤ m
  ·refine w_reg fun K hK => ?_; simp (disch := omega) only [↓wD, wU, simprocAttr, f0, f1, f5, f6, hlt, hx]; refine hK _ _ ?_; clear hK K
   refine wt ?_
   refine w_skip ?_
   (with_reducible repeat first | apply q_n | apply q_e | apply q_r | apply bq_n | apply bq_e | apply bq_r | apply bq_o rfl)
   refine w_seq (w_blk ?_)
   obtain ⟨ra, rc, rfl, hrc, hrl, hrel⟩ := SlP.open hr
   refine w_lin (fun _ => True) fun K hK => ?_
   simp (disch := omega) only [↓l_nil, ↓l_f, ↓l_t, ↓o_s, ↓o_e, ↓o_g, ↓o_ge, ↓k_ld, ↓k_ldn, isemS, ↓wD, wU, simprocAttr, f0, f1, f5, f6, hlt, hx, c0, c1, c2, c3, c4, c5, c6]
   refine w_call (ActsOf_cl m ha) ?_
   rintro _ H1 ⟨rfl, n1, rfl⟩
   simp (disch := omega) only [↓l_nil, ↓l_f, ↓l_t, ↓o_s, ↓o_e, ↓o_g, ↓o_ge, ↓k_ld, ↓k_ldn, isemS, ↓wD, wU, simprocAttr]
   refine ⟨⟨Nat.le_refl _, fun _ _ _ => rfl⟩, ?_⟩
   refine hK _ _ ?_
   clear hK K
   refine w_seq ?_
   refine w_reg fun K hK => ?_; simp (disch := omega) only [↓wD, wU, simprocAttr]; refine hK _ _ ?_; clear hK K
   refine w_blk (w_loop (fun n f H'' => H'' = H1 ∧ f 0 = .slice (some ⟨b, o, none⟩) l.length c ∧ f 1 = .int .i64 m ∧ f 6 = .int .i64 i ∧ ∃ (k : Nat) (x : Int), f 7 = .int .i64 k ∧ k ≤ l[i].reads.length ∧ f 5 = .int .i64 x ∧ n = l[i].reads.length - k) _ ⟨rfl, (by simp only [wL, Nat.reduceBEq, f0]), (by simp only [wL, Nat.reduceBEq, f1]), (by simp only [wL, Nat.reduceBEq, f6]), 0, _, rfl, Nat.zero_le _, rfl, rfl⟩ ?_)
   rintro n f H'' ⟨rfl, f0, f1, f6, k, x, f7, hk, f5, rfl⟩
   refine w_seq (w_seq ?_)
   have nx : ∀ g : Fr, g 0 = .slice (some ⟨b, o, none⟩) l.length c → g 1 = .int .i64 m → g 5 = .int .i64 x → g 6 = .int .i64 i → cwp Tryz.prog (.reg [O.s 17 (I.mv (Operand.tmp 6)), O.s 18 (I.bin .add (Operand.tmp 17) (.const (.int .i64 1))), O.s 6 (I.mv (Operand.tmp 18))]) g H'' (fun e f H' => e = .normal ∧ ∃ m', m' < l.length - i ∧ H' = H'' ∧ f 0 = .slice (some ⟨b, o, none⟩) l.length c ∧ f 1 = .int .i64 m ∧ ∃ (i : Nat) (x : Int), f 6 = .int .i64 i ∧ i ≤ l.length ∧ f 5 = .int .i64 x ∧ m' = l.length - i) := by
    intro g g0 g1 g5 g6
    refine w_reg1 fun K hK => ?_; simp (disch := omega) only [↓wD, wU, simprocAttr, g6]; refine hK _ _ ?_; clear hK K
    refine ⟨rfl, l.length - (i + 1), by omega, rfl, (by simp only [wL, Nat.reduceBEq, g0]), (by simp only [wL, Nat.reduceBEq, g1]), i + 1, x, (by simp only [wL, Nat.reduceBEq]), by omega, (by simp only [wL, Nat.reduceBEq, g5]), rfl⟩
   have goOn : ∀ {c : C} {f : Fr} {H : Hp} {R : Ex → Fr → Hp → Prop} {N : Fr → Hp → Prop} {Q : Ex → Fr → Hp → Prop}, cwp Tryz.prog c f H (fun e f H => e = .normal ∧ N f H) → (∀ f H, N f H → R .normal f H) → cwp Tryz.prog c f H R := by
    intro c f H R N Q h hn
    refine w_mono ?_ h
    rintro e f H ⟨rfl, h⟩
    exact hn f H h
   by_cases hkl : k < l[i].reads.length
   ·obtain ⟨b', o', rfl, hS', cs', hcs', rfl, hrd⟩ := hrel k hkl
    obtain ⟨d0, d1, d2⟩ := rdn3 hcs'
    by_cases hx' : x ≤ m
    ·refine w_reg fun K hK => ?_; simp (disch := omega) only [↓wD, wU, simprocAttr, f0, f1, f5, f6, f7, hlt, hkl, hx', c4]; refine hK _ _ ?_; clear hK K
     refine wt ?_
     refine w_skip ?_
     (with_reducible repeat first | apply q_n | apply q_e | apply q_r | apply bq_n | apply bq_e | apply bq_r | apply bq_o rfl)
     refine w_seq (w_blk ?_)
     refine w_reg1 fun K hK => ?_; simp (disch := omega) only [↓wD, wU, simprocAttr, f0, f1, f5, f6, f7, hlt, hkl, hx', c0, c4, d0, d1, d2]; refine hK _ _ ?_; clear hK K
     (with_reducible repeat first | apply q_n | apply q_e | apply q_r | apply bq_n | apply bq_e | apply bq_r | apply bq_o rfl)
     refine w_reg1 fun K hK => ?_; simp (disch := omega) only [↓wD, wU, simprocAttr, f7]; refine hK _ _ ?_; clear hK K
     (with_reducible repeat first | apply q_n | apply q_e | apply q_r | apply bq_n | apply bq_e | apply bq_r | apply bq_o rfl)
     refine ⟨l[i].reads.length - (k + 1), by omega, rfl, (by simp only [wL, Nat.reduceBEq, f0]), (by simp only [wL, Nat.reduceBEq, f1]), (by simp only [wL, Nat.reduceBEq, f6]), k + 1, _, (by simp only [wL, Nat.reduceBEq]), by omega, (by simp only [wL, Nat.reduceBEq]; rfl), rfl⟩
    ·refine w_reg fun K hK => ?_; simp (disch := omega) only [↓wD, wU, simprocAttr, f0, f1, f5, f6, f7, hlt, hkl, hx', c4]; refine hK _ _ ?_; clear hK K
     refine wf ?_
     refine w_exit ?_
     (with_reducible repeat first | apply q_n | apply q_e | apply q_r | apply bq_n | apply bq_e | apply bq_r | apply bq_o rfl)
     refine goOn (Q := fun _ _ _ => True) (nx _ (by simp only [wL, Nat.reduceBEq, f0]) (by simp only [wL, Nat.reduceBEq, f1]) (by simp only [wL, Nat.reduceBEq, f5]) (by simp only [wL, Nat.reduceBEq, f6])) ?_
     rintro f H h
     exact h
   ·refine w_reg fun K hK => ?_; simp (disch := omega) only [↓wD, wU, simprocAttr, f0, f1, f5, f6, f7, hlt, hkl, c4]; refine hK _ _ ?_; clear hK K
    refine wf ?_
    refine w_exit ?_
    (with_reducible repeat first | apply q_n | apply q_e | apply q_r | apply bq_n | apply bq_e | apply bq_r | apply bq_o rfl)
    refine goOn (Q := fun _ _ _ => True) (nx _ (by simp only [wL, Nat.reduceBEq, f0]) (by simp only [wL, Nat.reduceBEq, f1]) (by simp only [wL, Nat.reduceBEq, f5]) (by simp only [wL, Nat.reduceBEq, f6])) ?_
    rintro f H h
    exact h
  ·refine w_reg fun K hK => ?_; simp (disch := omega) only [↓wD, wU, simprocAttr, f0, f1, f5, f6, hlt, hx]; refine hK _ _ ?_; clear hK K
   refine wf ?_
   refine w_exit ?_
   (with_reducible repeat first | apply q_n | apply q_e | apply q_r | apply bq_n | apply bq_e | apply bq_r | apply bq_o rfl)
   refine fin _ ?_
   simp only [wL, Nat.reduceBEq, f5]
 ·refine w_reg fun K hK => ?_; simp (disch := omega) only [↓wD, wU, simprocAttr, f0, f1, f5, f6, hlt]; refine hK _ _ ?_; clear hK K
  refine wf ?_
  refine w_exit ?_
  (with_reducible repeat first | apply q_n | apply q_e | apply q_r | apply bq_n | apply bq_e | apply bq_r | apply bq_o rfl)
  refine fin _ ?_
  simp only [wL, Nat.reduceBEq, f5]
end Go.WK
/-
 The texts in the small language of some loaded functions, each held against the loaded one by the kernel.
-/
namespace Go.WK
open Go
def ir_holds_right : FIR := ⟨76, (.seq (.reg [.s 1 (.box 35 (.tmp 0)),
 .s 2 (.mv (.const (.bool false)))])
 (.seq (.reg [.s 3 (.mv (.const (.int .i64 0))),
  .s 4 (.mv (.const (.bool false)))])
 (.seq (.seq (.reg [.s 8 (.fa 3 (.tmp 1)),
   .s 9 (.ld (.tmp 8)),
   .s 10 (.len (.tmp 9)),
   .s 11 (.mv (.const (.int .i64 0)))])
  (.blk 0 (.loop (.seq (.reg [.s 12 (.bin .lss (.tmp 11) (.tmp 10))])
    (.seq (.cnd (.tmp 12) .skip
     (.exit 0))
    (.seq (.blk 1 (.seq (.reg [.s 13 (.ia 4 (.tmp 9) (.tmp 11)),
      .s 14 (.ldn 4 (.tmp 13)),
      .s 6 (.new 98 [(.int .u8 0), (.string .empty), (.string .empty), (.int .i64 0)]),
      .e (.st 4 (.tmp 6) (.tmp 14))])
      (.seq (.seq (.reg [.s 15 (.fa 1 (.tmp 6)),
       .s 16 (.ld (.tmp 15)),
       .s 17 (.fa 0 (.tmp 1)),
       .s 18 (.ld (.tmp 17)),
       .s 19 (.bin .neq (.tmp 16) (.tmp 18))])
       (.cnd (.tmp 19) (.seq (.reg [.s 2 (.mv (.const (.bool false)))])
        .ret)
        .skip))
      (.seq (.seq (.reg [.s 20 (.fa 0 (.tmp 6)),
        .s 21 (.ld (.tmp 20)),
        .s 22 (.bin .neq (.tmp 21) (.const (.int .u8 2)))])
       (.cnd (.tmp 22) (.reg [.s 23 (.mv (.tmp 3)),
         .s 24 (.bin .add (.tmp 23) (.const (.int .i64 1))),
         .s 3 (.mv (.tmp 24))])
        .skip))
       (.reg [.s 25 (.mv (.tmp 4)),
       .s 26 (.mv (.tmp 25)),
       .g 27 26 false (.fa 0 (.tmp 6)),
       .g 28 26 false (.ld (.tmp 27)),
       .g 29 26 false (.bin .neq (.tmp 28) (.const (.int .u8 1))),
       .s 30 (.pick (.tmp 26) (.const (.bool true)) (.tmp 29)),
       .s 4 (.mv (.tmp 30))])))))
     (.reg [.s 31 (.bin .add (.tmp 11) (.const (.int .i64 1))),
     .s 11 (.mv (.tmp 31))])))))))
  (.seq (.reg [.s 32 (.fa 4 (.tmp 1)),
   .s 33 (.ld (.tmp 32)),
   .s 34 (.mkf 126 [(.tmp 1)]),
   .s 35 (.call 125 [(.tmp 33), (.tmp 34)]),
   .s 7 (.mv (.tmp 35))])
  (.seq (.reg [.s 36 (.fa 1 (.tmp 1)),
   .s 37 (.ldn 2 (.tmp 36)),
   .s 38 (.call 127 [(.tmp 37)]),
   .s 39 (.mv (.tmp 38)),
   .g 40 39 true (.fa 3 (.tmp 1)),
   .g 41 39 true (.ld (.tmp 40)),
   .g 42 39 true (.call 128 [(.tmp 41)]),
   .s 43 (.pick (.tmp 39) (.tmp 42) (.const (.bool false))),
   .s 44 (.mv (.tmp 43)),
   .g 45 44 true (.mv (.tmp 7)),
   .g 46 44 true (.un .not (.tmp 45)),
   .s 47 (.pick (.tmp 44) (.tmp 46) (.const (.bool false))),
   .s 48 (.mv (.tmp 47)),
   .g 49 48 true (.fa 4 (.tmp 1)),
   .g 50 48 true (.ld (.tmp 49)),
   .g 51 48 true (.len (.tmp 50)),
   .g 52 48 true (.mv (.tmp 3)),
   .g 53 48 true (.bin .eql (.tmp 51) (.tmp 52)),
   .s 54 (.pick (.tmp 48) (.tmp 53) (.const (.bool false))),
   .s 55 (.mv (.tmp 54)),
   .g 56 55 true (.fa 5 (.tmp 1)),
   .g 57 55 true (.ld (.tmp 56)),
   .g 58 55 true (.mv (.tmp 4)),
   .g 59 55 true (.eqb false (.tmp 57) (.tmp 58)),
   .s 60 (.pick (.tmp 55) (.tmp 59) (.const (.bool false))),
   .s 61 (.mv (.tmp 60)),
   .g 62 61 true (.fa 6 (.tmp 1)),
   .g 63 61 true (.ld (.tmp 62)),
   .g 64 61 true (.slen (.tmp 63)),
   .g 65 61 true (.bin .leq (.tmp 64) (.const (.int .i64 20))),
   .s 66 (.pick (.tmp 61) (.tmp 65) (.const (.bool false))),
   .s 67 (.mv (.tmp 66)),
   .g 68 67 true (.fa 5 (.tmp 1)),
   .g 69 67 true (.ld (.tmp 68)),
   .g 70 67 true (.mv (.tmp 69)),
   .g 71 70 false (.fa 6 (.tmp 1)),
   .g 72 70 false (.ld (.tmp 71)),
   .g 73 70 false (.bin .eql (.tmp 72) (.const (.string .empty))),
   .g 74 67 true (.pick (.tmp 70) (.const (.bool true)) (.tmp 73)),
   .s 75 (.pick (.tmp 67) (.tmp 74) (.const (.bool false))),
   .s 2 (.mv (.tmp 75))])
   .ret))))), [.t 2]⟩
theorem c_holds_right : (compF Go.Proofs.Tryz.prog 71).map linF = some ir_holds_right := by kernel_rfl
def ir_holds_Right_1 : FIR := ⟨6, (.seq (.reg [.s 1 (.box 35 (.tmp 0)),
 .s 2 (.mv (.const (.bool false)))])
 (.seq (.reg [.s 3 (.ldn 7 (.tmp 1)),
  .s 4 (.call 71 [(.tmp 3)]),
  .s 5 (.un .not (.tmp 4)),
  .s 2 (.mv (.tmp 5))])
 .ret)), [.t 2]⟩
theorem c_holds_Right_1 : (compF Go.Proofs.Tryz.prog 70).map linF = some ir_holds_Right_1 := by kernel_rfl
def ir_holds_Right : FIR := ⟨6, (.seq (.reg [.s 2 (.mv (.const (.bool false)))])
 (.seq (.reg [.s 3 (.mv (.tmp 0)),
  .s 4 (.call 69 [(.tmp 3), (.func 70)]),
  .s 5 (.un .not (.tmp 4)),
  .s 2 (.mv (.tmp 5))])
 .ret)), [.t 2]⟩
theorem c_holds_Right : (compF Go.Proofs.Tryz.prog 25).map linF = some ir_holds_Right := by kernel_rfl
end Go.WK
/-
 Is it a hold?
-/
namespace Go.WK
open Go Go.Proofs

theorem notAct_cl {H : Hp} {cs : List Value} {a : Ac} (he : ElAc cs a) : Cl Tryz.prog 159 [.agg cs.toArray] H fun r H' => r = .bool (!actB a) ∧ Ext H H' := by
 refine cl_of mixed c_act_Right_1 (Nat.le_of_ble_eq_true rfl) ?_
 simp only [fwp, ir_act_Right_1, argF, Nat.reduceAdd]
 have hl : cs.length = 4 := by obtain ⟨rfl, _⟩ := he; rfl
 refine w_reg fun K hK => ?_; simp (disch := omega) only [↓wD, wU, simprocAttr]; refine hK _ _ ?_; clear hK K
 refine w_reg fun K hK => ?_
 have hr : rdn (H.push (.cells cs.toArray 98)) H.size 0 4 = some cs := by
  rw [rdn_new H cs 98 0 4 (by omega), List.drop_zero, List.take_of_length_le (by omega)]
 simp (disch := omega) only [↓wD, wU, simprocAttr, hr]
 refine w_call (right_cl he) ?_
 rintro _ H1 ⟨rfl, hE⟩
 simp (disch := omega) only [↓wD, wU, simprocAttr]
 refine hK _ _ ?_
 clear hK K
 refine w_ret ?_; (with_reducible repeat first | apply q_n | apply q_e | apply q_r | apply bq_n | apply bq_e | apply bq_r | apply bq_o rfl); refine ret1 (by (try simp only [wL, Nat.reduceBEq]); rfl) ?_
 refine ⟨rfl, ?_⟩
 repeat (first | exact Ext.refl _ | assumption | (refine Ext.trans ?_ (by assumption)) | refine Ext.push ?_ _ | refine Ext.putc ?_ (by first | omega | (simp only [Array.size_push, putc_size]; omega)) _ _)

def actsB (l : List Ac) : Bool := decide (1 ≤ l.length) && decide (l.length ≤ 6) && l.all actB
theorem any_not {α : Type} (p : α → Bool) (l : List α) : (!l.any fun a => !p a) = l.all p := by
 induction l with
 | nil => rfl
 | cons a l ih => simp [List.any_cons, List.all_cons, ← ih]
theorem aRight_cl {S : Nat → Prop} {H : Hp} {v : Value} {l : List Ac} (hv : AcSl S H v l) : Cl Tryz.prog 128 [v] H fun r H' => r = .bool (actsB l) ∧ Ext H H' := by
 refine cl_of mixed c_act_Right (Nat.le_of_ble_eq_true rfl) ?_
 simp only [fwp, ir_act_Right, argF, Nat.reduceAdd]
 have hf : FnOn Tryz.prog H ElAc (.func (.func 159) #[] #[]) (fun a => !actB a) l := ⟨_, _, _, rfl, fun H' _ a _ cs he => notAct_cl he⟩
 have hv' := hv
 obtain ⟨a, c, rfl, hc, hl, -⟩ := SlP.open hv
 refine w_reg fun K hK => ?_; simp (disch := omega) only [↓wD, wU, simprocAttr]; refine hK _ _ ?_; clear hK K
 refine w_reg fun K hK => ?_
 by_cases h1 : (1 : Int) ≤ l.length
 case neg =>
  simp (disch := omega) only [↓wD, wU, simprocAttr, h1]
  refine hK _ _ ?_
  clear hK K
  refine w_ret ?_; (with_reducible repeat first | apply q_n | apply q_e | apply q_r | apply bq_n | apply bq_e | apply bq_r | apply bq_o rfl); refine ret1 (by (try simp only [wL, Nat.reduceBEq]); rfl) ?_
  refine ⟨?_, Ext.refl _⟩
  have : ¬ 1 ≤ l.length := by omega
  simp [actsB, this]
 by_cases h2 : (l.length : Int) ≤ 6
 case neg =>
  simp (disch := omega) only [↓wD, wU, simprocAttr, h1, h2]
  refine hK _ _ ?_
  clear hK K
  refine w_ret ?_; (with_reducible repeat first | apply q_n | apply q_e | apply q_r | apply bq_n | apply bq_e | apply bq_r | apply bq_o rfl); refine ret1 (by (try simp only [wL, Nat.reduceBEq]); rfl) ?_
  refine ⟨?_, Ext.refl _⟩
  have : ¬ l.length ≤ 6 := by omega
  simp [actsB, this]
 simp (disch := omega) only [↓wD, wU, simprocAttr, h1, h2]
 refine w_call (hasAct_cl hv' hf) ?_
 rintro _ H1 ⟨rfl, hE⟩
 simp (disch := omega) only [↓wD, wU, simprocAttr]
 refine hK _ _ ?_
 clear hK K
 refine w_ret ?_; (with_reducible repeat first | apply q_n | apply q_e | apply q_r | apply bq_n | apply bq_e | apply bq_r | apply bq_o rfl); refine ret1 (by (try simp only [wL, Nat.reduceBEq]); rfl) ?_
 refine ⟨?_, hE⟩
 rw [any_not]
 have : 1 ≤ l.length := by omega
 have h2' : l.length ≤ 6 := by omega
 simp [actsB, this, h2']

def nameB (n : Nm) : Bool := decide (1 ≤ n.client) && decide (n.client ≤ 8) && decide (1 ≤ n.num) && decide (n.num ≤ 1073741824)
def readBad (k : ByteArray) (r : Rd) : Bool := !decide (r.key = k) || decide (20 < r.value.size) || (!r.is && !decide (r.value = .empty))
def rightB (h : Hd) : Bool := h.acts.all (fun a => decide (a.key = h.key)) && nameB h.name && actsB h.acts && !h.reads.any (readBad h.key) && decide (h.reads.length = h.acts.countP fun a => !decide (a.kind = 2)) && decide (h.put = h.acts.any fun a => !decide (a.kind = 1)) && decide ((h.value.size : Int) ≤ 20) && (h.put || decide (h.value = .empty))

theorem hright_cl {S : Nat → Prop} {H : Hp} {cs : List Value} {h : Hd} (he : ElHd S H cs h) : Cl Tryz.prog 71 [.agg cs.toArray] H fun r H' => r = .bool (rightB h) ∧ Ext H H' := by
 refine cl_of mixed c_holds_right (Nat.le_of_ble_eq_true rfl) ?_
 simp only [fwp, ir_holds_right, argF, Nat.reduceAdd]
 obtain ⟨va, vr, rfl, hva, hvr, hnm, hsk, hsv⟩ := he
 refine w_reg fun K hK => ?_; simp (disch := omega) only [↓wD, wU, simprocAttr]; refine hK _ _ ?_; clear hK K
 generalize hH0 : H.push (.cells #[.string h.key, .int .i64 h.name.client, .int .i64 h.name.num, va, vr, .bool h.put, .string h.value] 35) = H0
 have hE0 : Ext H H0 := by subst hH0; exact (Ext.refl _).push _
 have hc : rdn H0 H.size 0 7 = some [.string h.key, .int .i64 h.name.client, .int .i64 h.name.num, va, vr, .bool h.put, .string h.value] := by subst hH0; exact rdn_new H _ 35 0 7 (Nat.le_refl _)
 obtain ⟨c0, c1, c2, c3, c4, c5, c6⟩ := rdn7 hc
 have hlt := cell_lt c0
 clear hH0
 replace hva := hva.ext hE0
 replace hvr := hvr.ext hE0
 obtain ⟨a, c, eva, hcc, hl, hel⟩ := SlP.open hva
 refine w_reg fun K hK => ?_; simp (disch := omega) only [↓wD, wU, simprocAttr]; refine hK _ _ ?_; clear hK K
 refine w_seq (w_seq ?_)
 refine w_reg fun K hK => ?_; simp (disch := omega) only [↓wD, wU, simprocAttr, c3, eva]; refine hK _ _ ?_; clear hK K
 refine w_blk (w_loop (fun n f H' => Ext H0 H' ∧ f 1 = .pointer (some ⟨H.size, 0, none⟩) ∧ f 9 = .slice a h.acts.length c ∧ f 10 = .int .i64 h.acts.length ∧ ∃ (i : Nat), f 11 = .int .i64 i ∧ i ≤ h.acts.length ∧ (∀ x ∈ h.acts.take i, x.key = h.key) ∧ f 3 = .int .i64 ((h.acts.take i).countP fun a => !decide (a.kind = 2)) ∧ f 4 = .bool ((h.acts.take i).any fun a => !decide (a.kind = 1)) ∧ n = h.acts.length - i) _ ⟨Ext.refl _, (by simp only [wL, Nat.reduceBEq]), (by simp only [wL, Nat.reduceBEq]), (by simp only [wL, Nat.reduceBEq]), 0, rfl, Nat.zero_le _, by simp, (by simp only [wL, Nat.reduceBEq]; rfl), (by simp only [wL, Nat.reduceBEq]; rfl), rfl⟩ ?_)
 rintro n f H' ⟨hE, f1, f9, f10, i, f11, hi, hkeys, f3, f4, rfl⟩
 have e0 := (hE.cell H.size 0 hlt).trans c0
 have e1 := (hE.cell H.size (0 + 1) hlt).trans c1
 have e2 := (hE.cell H.size (0 + 2) hlt).trans c2
 have e3 := (hE.cell H.size (0 + 3) hlt).trans c3
 have e4 := (hE.cell H.size (0 + 4) hlt).trans c4
 have e5 := (hE.cell H.size (0 + 5) hlt).trans c5
 have e6 := (hE.cell H.size (0 + 6) hlt).trans c6
 have hlt' : H.size < H'.size := Nat.lt_of_lt_of_le hlt hE.size
 by_cases hil : i < h.acts.length
 ·obtain ⟨b, o, rfl, hS, cs', hcs, rfl, hk, hn, hs1, hs2⟩ := hel i hil
  refine w_reg fun K hK => ?_; simp (disch := omega) only [↓wD, wU, simprocAttr, f10, f11, hil]; refine hK _ _ ?_; clear hK K
  refine w_seq ?_
  refine wt ?_
  refine w_skip ?_
  (with_reducible repeat first | apply q_n | apply q_e | apply q_r | apply bq_n | apply bq_e | apply bq_r | apply bq_o rfl)
  refine w_seq (w_blk ?_)
  have hcs' := rdn_ext hE hcs
  refine w_reg fun K hK => ?_; simp (disch := omega) only [↓wD, wU, simprocAttr, f9, f11, hil, hcs']; refine hK _ _ ?_; clear hK K
  refine w_seq (w_seq ?_)
  by_cases hkey : h.acts[i].key = h.key
  ·have hkeyT := eq_true hkey
   have htake : h.acts.take (i + 1) = h.acts.take i ++ [h.acts[i]] := by
    rw [List.take_add_one, List.getElem?_eq_getElem hil]; rfl
   refine w_reg fun K hK => ?_; simp (disch := omega) only [↓wD, wU, simprocAttr, f1, f9, f11, e0, hkeyT]; refine hK _ _ ?_; clear hK K
   refine wf ?_
   refine w_skip ?_
   (with_reducible repeat first | apply q_n | apply q_e | apply q_r | apply bq_n | apply bq_e | apply bq_r | apply bq_o rfl)
   refine w_cut (fun g H'' => Ext H0 H'' ∧ H'' = H'.push (.cells #[.int .u8 h.acts[i].kind, .string h.acts[i].key, .string h.acts[i].value, .int .i64 h.acts[i].num] 98) ∧ g 1 = .pointer (some ⟨H.size, 0, none⟩) ∧ g 6 = .pointer (some ⟨H'.size, 0, none⟩) ∧ g 9 = .slice (some ⟨b, o, none⟩) h.acts.length c ∧ g 10 = .int .i64 h.acts.length ∧ g 11 = .int .i64 i ∧ g 3 = .int .i64 ((h.acts.take (i + 1)).countP fun a => !decide (a.kind = 2)) ∧ g 4 = .bool ((h.acts.take i).any fun a => !decide (a.kind = 1))) ?_ ?_
   ·refine w_seq ?_
    have hcnt : (h.acts.take i).countP (fun a => !decide (a.kind = 2)) ≤ 140737488355328 := Nat.le_trans List.countP_le_length (by rw [List.length_take]; omega)
    by_cases hk2 : h.acts[i].kind = 2
    ·have hk2T := eq_true hk2
     refine w_reg fun K hK => ?_; simp (disch := omega) only [↓wD, wU, simprocAttr, f1, hk2T]; refine hK _ _ ?_; clear hK K
     refine wf ?_
     refine w_skip ?_
     (with_reducible repeat first | apply q_n | apply q_e | apply q_r | apply bq_n | apply bq_e | apply bq_r | apply bq_o rfl)
     refine ⟨?_, rfl, (by simp only [wL, Nat.reduceBEq, f1]), (by simp only [wL, Nat.reduceBEq]), (by simp only [wL, Nat.reduceBEq, f9]), (by simp only [wL, Nat.reduceBEq, f10]), (by simp only [wL, Nat.reduceBEq, f11]), ?_, (by simp only [wL, Nat.reduceBEq, f4])⟩
     ·repeat (first | exact Ext.refl _ | assumption | (refine Ext.trans ?_ (by assumption)) | refine Ext.push ?_ _ | refine Ext.putc ?_ (by first | omega | (simp only [Array.size_push, putc_size]; omega)) _ _)
     ·simp only [wL, Nat.reduceBEq, f3]
      rw [htake, List.countP_append]
      simp [hk2]
    ·refine w_reg fun K hK => ?_; simp (disch := omega) only [↓wD, wU, simprocAttr, f1, hk2]; refine hK _ _ ?_; clear hK K
     refine wt ?_
     refine w_reg1 fun K hK => ?_; simp (disch := omega) only [↓wD, wU, simprocAttr, f3]; refine hK _ _ ?_; clear hK K
     (with_reducible repeat first | apply q_n | apply q_e | apply q_r | apply bq_n | apply bq_e | apply bq_r | apply bq_o rfl)
     refine ⟨?_, rfl, (by simp only [wL, Nat.reduceBEq, f1]), (by simp only [wL, Nat.reduceBEq]), (by simp only [wL, Nat.reduceBEq, f9]), (by simp only [wL, Nat.reduceBEq, f10]), (by simp only [wL, Nat.reduceBEq, f11]), ?_, (by simp only [wL, Nat.reduceBEq, f4])⟩
     ·repeat (first | exact Ext.refl _ | assumption | (refine Ext.trans ?_ (by assumption)) | refine Ext.push ?_ _ | refine Ext.putc ?_ (by first | omega | (simp only [Array.size_push, putc_size]; omega)) _ _)
     ·simp only [wL, Nat.reduceBEq]
      rw [htake, List.countP_append]
      simp [hk2]
   rintro g _ ⟨hEg, rfl, g1, g6, g9, g10, g11, g3, g4⟩
   have fin : ∀ (f' : Fr) (x : Bool), f' 1 = .pointer (some ⟨H.size, 0, none⟩) → f' 9 = .slice (some ⟨b, o, none⟩) h.acts.length c → f' 10 = .int .i64 h.acts.length → f' 11 = .int .i64 i → f' 3 = .int .i64 ((h.acts.take (i + 1)).countP fun a => !decide (a.kind = 2)) → f' 4 = .bool ((h.acts.take (i + 1)).any fun a => !decide (a.kind = 1)) → True := fun _ _ _ _ _ _ _ _ => trivial
   cases hany : (h.acts.take i).any fun a => !decide (a.kind = 1) with
   | true =>
    rw [hany] at g4
    refine w_reg1 fun K hK => ?_; simp (disch := omega) only [↓wD, wU, simprocAttr, g4]; refine hK _ _ ?_; clear hK K
    (with_reducible repeat first | apply q_n | apply q_e | apply q_r | apply bq_n | apply bq_e | apply bq_r | apply bq_o rfl)
    refine w_reg1 fun K hK => ?_; simp (disch := omega) only [↓wD, wU, simprocAttr, g11]; refine hK _ _ ?_; clear hK K
    (with_reducible repeat first | apply q_n | apply q_e | apply q_r | apply bq_n | apply bq_e | apply bq_r | apply bq_o rfl)
    refine ⟨h.acts.length - (i + 1), by omega, hEg, (by simp only [wL, Nat.reduceBEq, g1]), (by simp only [wL, Nat.reduceBEq, g9]), (by simp only [wL, Nat.reduceBEq, g10]), i + 1, (by simp only [wL, Nat.reduceBEq]), by omega, ?_, (by simp only [wL, Nat.reduceBEq, g3]), ?_, rfl⟩
    ·rw [htake]; intro x hx; rcases List.mem_append.1 hx with hx | hx
     ·exact hkeys x hx
     ·simp at hx; subst hx; exact hkey
    ·simp only [wL, Nat.reduceBEq]
     rw [htake, List.any_append, hany]
     rfl
   | false =>
    rw [hany] at g4
    have hk1 : (h.acts[i].kind = 1) = True ∨ (h.acts[i].kind = 1) = False := by by_cases hk1 : h.acts[i].kind = 1 <;> simp [hk1]
    rcases hk1 with hk1 | hk1
    all_goals
     refine w_reg1 fun K hK => ?_; simp (disch := omega) only [↓wD, wU, simprocAttr, g4, g6, hk1]; refine hK _ _ ?_; clear hK K
     (with_reducible repeat first | apply q_n | apply q_e | apply q_r | apply bq_n | apply bq_e | apply bq_r | apply bq_o rfl)
     refine w_reg1 fun K hK => ?_; simp (disch := omega) only [↓wD, wU, simprocAttr, g11]; refine hK _ _ ?_; clear hK K
     (with_reducible repeat first | apply q_n | apply q_e | apply q_r | apply bq_n | apply bq_e | apply bq_r | apply bq_o rfl)
     refine ⟨h.acts.length - (i + 1), by omega, hEg, (by simp only [wL, Nat.reduceBEq, g1]), (by simp only [wL, Nat.reduceBEq, g9]), (by simp only [wL, Nat.reduceBEq, g10]), i + 1, (by simp only [wL, Nat.reduceBEq]), by omega, ?_, (by simp only [wL, Nat.reduceBEq, g3]), ?_, rfl⟩
     ·rw [htake]; intro x hx; rcases List.mem_append.1 hx with hx | hx
      ·exact hkeys x hx
      ·simp at hx; subst hx; exact hkey
     ·simp only [wL, Nat.reduceBEq]
      rw [htake, List.any_append, hany]
      simp [hk1]
  ·refine w_reg fun K hK => ?_; simp (disch := omega) only [↓wD, wU, simprocAttr, f1, f9, f11, e0, hkey]; refine hK _ _ ?_; clear hK K
   refine wt ?_
   refine w_reg fun K hK => ?_; simp (disch := omega) only [↓wD, wU, simprocAttr]; refine hK _ _ ?_; clear hK K
   refine w_ret ?_; (with_reducible repeat first | apply q_n | apply q_e | apply q_r | apply bq_n | apply bq_e | apply bq_r | apply bq_o rfl); refine ret1 (by (try simp only [wL, Nat.reduceBEq]); rfl) ?_
   refine ⟨?_, ?_⟩
   ·have : h.acts.all (fun a => decide (a.key = h.key)) = false := by
     rw [List.all_eq_false]
     exact ⟨_, List.getElem_mem hil, by simp [hkey]⟩
    simp [rightB, this]
   ·repeat (first | exact Ext.refl _ | assumption | (refine Ext.trans ?_ (by assumption)) | refine Ext.push ?_ _ | refine Ext.putc ?_ (by first | omega | (simp only [Array.size_push, putc_size]; omega)) _ _)
 ·refine w_reg fun K hK => ?_; simp (disch := omega) only [↓wD, wU, simprocAttr, f10, f11, hil]; refine hK _ _ ?_; clear hK K
  refine w_seq ?_
  refine wf ?_
  refine w_exit ?_
  (with_reducible repeat first | apply q_n | apply q_e | apply q_r | apply bq_n | apply bq_e | apply bq_r | apply bq_o rfl)
  have hfull : h.acts.take i = h.acts := List.take_of_length_le (by omega)
  rw [hfull] at hkeys f3 f4
  have hk : h.acts.all (fun a => decide (a.key = h.key)) = true := by
   rw [List.all_eq_true]; intro x hx; simp [hkeys x hx]
  have hf : FnOn Tryz.prog H' ElRd (.func (.func 126) #[] #[.pointer (some ⟨H.size, 0, none⟩)]) (readBad h.key) h.reads := ⟨_, _, _, rfl, fun H'' hE'' a _ cs he => readBad_cl H.size 0 h.key ((hE''.cell _ _ hlt').trans e0) he⟩
  obtain ⟨ra, rc, evr, hrc, hrl, -⟩ := SlP.open hvr
  refine w_reg fun K hK => ?_
  simp (disch := omega) only [↓wD, wU, simprocAttr, f1, e4]
  refine w_call (hasRead_cl (hvr.ext hE) hf) ?_
  rintro _ H2 ⟨rfl, hE2⟩
  simp (disch := omega) only [↓wD, wU, simprocAttr]
  refine hK _ _ ?_
  clear hK K
  have d1 := (hE2.cell H.size (0 + 1) hlt').trans e1
  have d2 := (hE2.cell H.size (0 + 2) hlt').trans e2
  have d3 := (hE2.cell H.size (0 + 3) hlt').trans e3
  have d4 := (hE2.cell H.size (0 + 4) hlt').trans e4
  have d5 := (hE2.cell H.size (0 + 5) hlt').trans e5
  have d6 := (hE2.cell H.size (0 + 6) hlt').trans e6
  have hlt2 : H.size < H2.size := Nat.lt_of_lt_of_le hlt' hE2.size
  subst evr
  refine w_reg fun K hK => ?_
  simp (disch := omega) only [↓wD, wU, simprocAttr, f1, d1, d2]
  refine w_call (Name_cl h.name.client h.name.num) ?_
  rintro _ H3 ⟨rfl, hE3⟩
  have hx3 := fun i => hE3.cell H.size i hlt2
  have hA : Ext H H3 := ((hE0.trans hE).trans hE2).trans hE3
  have hlt3 : H.size < H3.size := Nat.lt_of_lt_of_le hlt2 hE3.size
  have g3 := (hx3 (0 + 3)).trans d3
  have g4 := (hx3 (0 + 4)).trans d4
  have g5 := (hx3 (0 + 5)).trans d5
  have g6 := (hx3 (0 + 6)).trans d6
  clear hx3
  rw [show (decide (1 ≤ h.name.client) && decide (h.name.client ≤ 8) && decide (1 ≤ h.name.num) && decide (h.name.num ≤ 1073741824)) = nameB h.name from rfl]
  cases hnb : nameB h.name with
  | false =>
   simp (disch := omega) only [↓wD, wU, simprocAttr]
   refine hK _ _ ?_
   clear hK K
   refine w_ret ?_; (with_reducible repeat first | apply q_n | apply q_e | apply q_r | apply bq_n | apply bq_e | apply bq_r | apply bq_o rfl); refine ret1 (by (try simp only [wL, Nat.reduceBEq]); rfl) ?_
   exact ⟨by simp [rightB, hnb], hA⟩
  | true =>
  simp (disch := omega) only [↓wD, wU, simprocAttr, f1, g3, eva]
  rw [eva] at hva
  refine w_call (aRight_cl (hva.ext ((hE.trans hE2).trans hE3))) ?_
  rintro _ H4 ⟨rfl, hE4⟩
  have hB := hA.trans hE4
  have k4 := (hE4.cell H.size (0 + 4) hlt3).trans g4
  have k5 := (hE4.cell H.size (0 + 5) hlt3).trans g5
  have k6 := (hE4.cell H.size (0 + 6) hlt3).trans g6
  cases hab : actsB h.acts with
  | false =>
   simp (disch := omega) only [↓wD, wU, simprocAttr]
   refine hK _ _ ?_
   clear hK K
   refine w_ret ?_; (with_reducible repeat first | apply q_n | apply q_e | apply q_r | apply bq_n | apply bq_e | apply bq_r | apply bq_o rfl); refine ret1 (by (try simp only [wL, Nat.reduceBEq]); rfl) ?_
   exact ⟨by simp [rightB, hab], hB⟩
  | true =>
  cases hrb : h.reads.any (readBad h.key) with
  | true =>
   simp (disch := omega) only [↓wD, wU, simprocAttr, hrb]
   refine hK _ _ ?_
   clear hK K
   refine w_ret ?_; (with_reducible repeat first | apply q_n | apply q_e | apply q_r | apply bq_n | apply bq_e | apply bq_r | apply bq_o rfl); refine ret1 (by (try simp only [wL, Nat.reduceBEq]); rfl) ?_
   exact ⟨by simp [rightB, hrb], hB⟩
  | false =>
  have hln : (h.reads.length = h.acts.countP fun a => !decide (a.kind = 2)) = True ∨ (h.reads.length = h.acts.countP fun a => !decide (a.kind = 2)) = False := by
   by_cases e : (h.reads.length = h.acts.countP fun a => !decide (a.kind = 2)) <;> simp [e]
  rcases hln with hln | hln
  case inr =>
   simp (disch := omega) only [↓wD, wU, simprocAttr, hrb, f1, f3, k4, hln]
   refine hK _ _ ?_
   clear hK K
   refine w_ret ?_; (with_reducible repeat first | apply q_n | apply q_e | apply q_r | apply bq_n | apply bq_e | apply bq_r | apply bq_o rfl); refine ret1 (by (try simp only [wL, Nat.reduceBEq]); rfl) ?_
   exact ⟨by simp only [rightB, hln, decide_false, Bool.and_false, Bool.false_and], hB⟩
  have hpt : (h.put = h.acts.any fun a => !decide (a.kind = 1)) = True ∨ (h.put = h.acts.any fun a => !decide (a.kind = 1)) = False := by
   by_cases e : (h.put = h.acts.any fun a => !decide (a.kind = 1)) <;> simp [e]
  rcases hpt with hpt | hpt
  case inr =>
   simp (disch := omega) only [↓wD, wU, simprocAttr, hrb, f1, f3, f4, k4, k5, hln, hpt]
   refine hK _ _ ?_
   clear hK K
   refine w_ret ?_; (with_reducible repeat first | apply q_n | apply q_e | apply q_r | apply bq_n | apply bq_e | apply bq_r | apply bq_o rfl); refine ret1 (by (try simp only [wL, Nat.reduceBEq]); rfl) ?_
   exact ⟨by simp only [rightB, hpt, decide_false, Bool.and_false, Bool.false_and], hB⟩
  have hsz : ((h.value.size : Int) ≤ 20) = True ∨ ((h.value.size : Int) ≤ 20) = False := by
   by_cases e : ((h.value.size : Int) ≤ 20) <;> simp [e]
  rcases hsz with hsz | hsz
  case inr =>
   simp (disch := omega) only [↓wD, wU, simprocAttr, hrb, f1, f3, f4, k4, k5, k6, hln, hpt, hsz]
   refine hK _ _ ?_
   clear hK K
   refine w_ret ?_; (with_reducible repeat first | apply q_n | apply q_e | apply q_r | apply bq_n | apply bq_e | apply bq_r | apply bq_o rfl); refine ret1 (by (try simp only [wL, Nat.reduceBEq]); rfl) ?_
   exact ⟨by simp only [rightB, hsz, decide_false, Bool.and_false, Bool.false_and], hB⟩
  cases hp : h.put with
  | true =>
   rw [hp] at k5 hpt
   simp (disch := omega) only [↓wD, wU, simprocAttr, hrb, f1, f3, f4, k4, k5, k6, hln, hpt, hsz]
   refine hK _ _ ?_
   clear hK K
   refine w_ret ?_; (with_reducible repeat first | apply q_n | apply q_e | apply q_r | apply bq_n | apply bq_e | apply bq_r | apply bq_o rfl); refine ret1 (by (try simp only [wL, Nat.reduceBEq]); rfl) ?_
   exact ⟨by simp only [rightB, hk, hnb, hab, hrb, hln, hp, hpt, hsz, decide_true, Bool.not_false, Bool.and_true, Bool.true_and, Bool.true_or], hB⟩
  | false =>
   rw [hp] at k5 hpt
   simp (disch := omega) only [↓wD, wU, simprocAttr, hrb, f1, f3, f4, k4, k5, k6, hln, hpt, hsz]
   refine hK _ _ ?_
   clear hK K
   refine w_ret ?_; (with_reducible repeat first | apply q_n | apply q_e | apply q_r | apply bq_n | apply bq_e | apply bq_r | apply bq_o rfl); refine ret1 (by (try simp only [wL, Nat.reduceBEq]); rfl) ?_
   exact ⟨by simp only [rightB, hk, hnb, hab, hrb, hln, hp, hpt, hsz, decide_true, Bool.not_false, Bool.and_true, Bool.true_and, Bool.false_or], hB⟩

theorem notHold_cl {S : Nat → Prop} {H : Hp} {cs : List Value} {h : Hd} (he : ElHd S H cs h) : Cl Tryz.prog 70 [.agg cs.toArray] H fun r H' => r = .bool (!rightB h) ∧ Ext H H' := by
 refine cl_of mixed c_holds_Right_1 (Nat.le_of_ble_eq_true rfl) ?_
 simp only [fwp, ir_holds_Right_1, argF, Nat.reduceAdd]
 have hl : cs.length = 7 := by obtain ⟨va, vr, rfl, _⟩ := he; rfl
 refine w_reg fun K hK => ?_; simp (disch := omega) only [↓wD, wU, simprocAttr]; refine hK _ _ ?_; clear hK K
 refine w_reg fun K hK => ?_
 have hr : rdn (H.push (.cells cs.toArray 35)) H.size 0 7 = some cs := by
  rw [rdn_new H cs 35 0 7 (by omega), List.drop_zero, List.take_of_length_le (by omega)]
 simp (disch := omega) only [↓wD, wU, simprocAttr, hr]
 refine w_call (hright_cl (he.ext ((Ext.refl _).push _))) ?_
 rintro _ H1 ⟨rfl, hE⟩
 simp (disch := omega) only [↓wD, wU, simprocAttr]
 refine hK _ _ ?_
 clear hK K
 refine w_ret ?_; (with_reducible repeat first | apply q_n | apply q_e | apply q_r | apply bq_n | apply bq_e | apply bq_r | apply bq_o rfl); refine ret1 (by (try simp only [wL, Nat.reduceBEq]); rfl) ?_
 refine ⟨rfl, ?_⟩
 repeat (first | exact Ext.refl _ | assumption | (refine Ext.trans ?_ (by assumption)) | refine Ext.push ?_ _ | refine Ext.putc ?_ (by first | omega | (simp only [Array.size_push, putc_size]; omega)) _ _)

theorem Right_cl {S : Nat → Prop} {H : Hp} {v : Value} {l : List Hd} (hv : HdSl S H v l) : Cl Tryz.prog 25 [v] H fun r H' => r = .bool (l.all rightB) ∧ Ext H H' := by
 refine cl_of mixed c_holds_Right (Nat.le_of_ble_eq_true rfl) ?_
 simp only [fwp, ir_holds_Right, argF, Nat.reduceAdd]
 have hf : FnOn Tryz.prog H (ElHd S H) (.func (.func 70) #[] #[]) (fun h => !rightB h) l := ⟨_, _, _, rfl, fun H' hE a _ cs he => notHold_cl (he.ext hE)⟩
 refine w_reg fun K hK => ?_; simp (disch := omega) only [↓wD, wU, simprocAttr]; refine hK _ _ ?_; clear hK K
 refine w_reg fun K hK => ?_
 simp (disch := omega) only [↓wD, wU, simprocAttr]
 refine w_call (hasHold_cl hv hf) ?_
 rintro _ H1 ⟨rfl, hE⟩
 simp (disch := omega) only [↓wD, wU, simprocAttr]
 refine hK _ _ ?_
 clear hK K
 refine w_ret ?_; (with_reducible repeat first | apply q_n | apply q_e | apply q_r | apply bq_n | apply bq_e | apply bq_r | apply bq_o rfl); refine ret1 (by (try simp only [wL, Nat.reduceBEq]); rfl) ?_
 exact ⟨by rw [any_not], hE⟩
end Go.WK
/-
 The texts in the small language of some loaded functions, each held against the loaded one by the kernel.
-/
namespace Go.WK
open Go
def ir_slices_Clone_Act : FIR := ⟨8, (.seq (.reg [.s 2 (.mv (.const (.slice none 0 0)))])
 (.seq (.seq (.reg [.s 3 (.mv (.tmp 0)),
  .s 4 (.eqz .sli false (.tmp 3) (.const (.slice none 0 0)))])
  (.cnd (.tmp 4) (.seq (.reg [.s 2 (.mv (.const (.slice none 0 0)))])
   .ret)
   .skip))
 (.seq (.reg [.s 5 (.bsl 98 0 [] []),
  .s 6 (.mv (.tmp 0)),
  .s 7 (.app 98 4 48 [(.int .u8 0), (.string .empty), (.string .empty), (.int .i64 0)] (.tmp 5) (.tmp 6)),
  .s 2 (.mv (.tmp 7))])
  .ret))), [.t 2]⟩
theorem c_slices_Clone_Act : (compF Go.Proofs.Tryz.prog 108).map linF = some ir_slices_Clone_Act := by kernel_rfl
def ir_slices_Clone_Read : FIR := ⟨8, (.seq (.reg [.s 2 (.mv (.const (.slice none 0 0)))])
 (.seq (.seq (.reg [.s 3 (.mv (.tmp 0)),
  .s 4 (.eqz .sli false (.tmp 3) (.const (.slice none 0 0)))])
  (.cnd (.tmp 4) (.seq (.reg [.s 2 (.mv (.const (.slice none 0 0)))])
   .ret)
   .skip))
 (.seq (.reg [.s 5 (.bsl 100 0 [] []),
  .s 6 (.mv (.tmp 0)),
  .s 7 (.app 100 3 40 [(.string .empty), (.bool false), (.string .empty)] (.tmp 5) (.tmp 6)),
  .s 2 (.mv (.tmp 7))])
  .ret))), [.t 2]⟩
theorem c_slices_Clone_Read : (compF Go.Proofs.Tryz.prog 109).map linF = some ir_slices_Clone_Read := by kernel_rfl
def ir_holds_own : FIR := ⟨26, (.seq (.reg [.s 2 (.mv (.const (.slice none 0 0)))])
 (.seq (.reg [.s 3 (.mv (.const (.slice none 0 0)))])
 (.seq (.seq (.reg [.s 6 (.mv (.tmp 0)),
   .s 7 (.len (.tmp 6)),
   .s 8 (.mv (.const (.int .i64 0)))])
  (.blk 0 (.loop (.seq (.reg [.s 9 (.bin .lss (.tmp 8) (.tmp 7))])
    (.seq (.cnd (.tmp 9) .skip
     (.exit 0))
    (.seq (.blk 1 (.seq (.reg [.s 10 (.ia 7 (.tmp 6) (.tmp 8)),
      .s 11 (.ldn 7 (.tmp 10)),
      .s 5 (.new 35 [(.string .empty), (.int .i64 0), (.int .i64 0), (.slice none 0 0), (.slice none 0 0), (.bool false), (.string .empty)]),
      .e (.st 7 (.tmp 5) (.tmp 11))])
      (.seq (.lin [(false, .s 12 (.fa 3 (.tmp 5))),
       (false, .s 13 (.ld (.tmp 12))),
       (false, .s 15 (.fa 4 (.tmp 5))),
       (false, .s 16 (.ld (.tmp 15))),
       (true, .s 14 (.call 108 [(.tmp 13)])),
       (false, .s 18 (.fa 3 (.tmp 5))),
       (true, .s 17 (.call 109 [(.tmp 16)])),
       (false, .e (.st 1 (.tmp 18) (.tmp 14))),
       (false, .s 19 (.fa 4 (.tmp 5))),
       (false, .e (.st 1 (.tmp 19) (.tmp 17)))])
      (.reg [.s 20 (.mv (.tmp 3)),
       .s 21 (.ldn 7 (.tmp 5)),
       .s 22 (.bsl 35 1 [(.string .empty), (.int .i64 0), (.int .i64 0), (.slice none 0 0), (.slice none 0 0), (.bool false), (.string .empty)] [(0, 7, (.tmp 21))]),
       .s 23 (.app 35 7 104 [(.string .empty), (.int .i64 0), (.int .i64 0), (.slice none 0 0), (.slice none 0 0), (.bool false), (.string .empty)] (.tmp 20) (.tmp 22)),
       .s 3 (.mv (.tmp 23))]))))
     (.reg [.s 24 (.bin .add (.tmp 8) (.const (.int .i64 1))),
     .s 8 (.mv (.tmp 24))])))))))
  (.seq (.reg [.s 25 (.mv (.tmp 3)),
   .s 2 (.mv (.tmp 25))])
  .ret)))), [.t 2]⟩
theorem c_holds_own : (compF Go.Proofs.Tryz.prog 53).map linF = some ir_holds_own := by kernel_rfl
def ir_holds_row_those : FIR := ⟨27, (.seq (.reg [.s 4 (.mv (.const (.slice none 0 0)))])
 (.seq (.reg [.s 5 (.mv (.const (.slice none 0 0)))])
 (.seq (.seq (.reg [.s 8 (.mv (.tmp 0)),
   .s 9 (.nck (.tmp 8)),
   .s 10 (.fa 0 (.tmp 9)),
   .s 11 (.ld (.tmp 10)),
   .s 12 (.len (.tmp 11)),
   .s 13 (.mv (.const (.int .i64 0)))])
  (.blk 0 (.loop (.seq (.reg [.s 14 (.bin .lss (.tmp 13) (.tmp 12))])
    (.seq (.cnd (.tmp 14) .skip
     (.exit 0))
    (.seq (.blk 1 (.seq (.reg [.s 15 (.ia 7 (.tmp 11) (.tmp 13)),
      .s 16 (.ldn 7 (.tmp 15)),
      .s 7 (.new 35 [(.string .empty), (.int .i64 0), (.int .i64 0), (.slice none 0 0), (.slice none 0 0), (.bool false), (.string .empty)]),
      .e (.st 7 (.tmp 7) (.tmp 16))])
      (.seq (.reg [.s 17 (.mv (.tmp 1)),
       .s 18 (.ldn 7 (.tmp 7)),
       .s 19 (.callv (.tmp 17) [(.tmp 18)])])
      (.cnd (.tmp 19) (.reg [.s 20 (.mv (.tmp 5)),
        .s 21 (.ldn 7 (.tmp 7)),
        .s 22 (.bsl 35 1 [(.string .empty), (.int .i64 0), (.int .i64 0), (.slice none 0 0), (.slice none 0 0), (.bool false), (.string .empty)] [(0, 7, (.tmp 21))]),
        .s 23 (.app 35 7 104 [(.string .empty), (.int .i64 0), (.int .i64 0), (.slice none 0 0), (.slice none 0 0), (.bool false), (.string .empty)] (.tmp 20) (.tmp 22)),
        .s 5 (.mv (.tmp 23))])
       .skip))))
     (.reg [.s 24 (.bin .add (.tmp 13) (.const (.int .i64 1))),
     .s 13 (.mv (.tmp 24))])))))))
  (.seq (.reg [.s 25 (.mv (.tmp 5)),
   .s 26 (.call 53 [(.tmp 25)]),
   .s 4 (.mv (.tmp 26))])
  .ret)))), [.t 4]⟩
theorem c_holds_row_those : (compF Go.Proofs.Tryz.prog 49).map linF = some ir_holds_row_those := by kernel_rfl
def ir_holds_row_less : FIR := ⟨19, (.seq (.reg [.s 4 (.mv (.const (.slice none 0 0)))])
 (.seq (.reg [.s 6 (.mv (.tmp 0)),
  .s 7 (.mv (.tmp 1)),
  .s 8 (.call 49 [(.tmp 6), (.tmp 7)]),
  .s 5 (.mv (.tmp 8))])
 (.seq (.reg [.s 9 (.mv (.tmp 0)),
  .s 10 (.mv (.tmp 0)),
  .s 11 (.nck (.tmp 10)),
  .s 12 (.fa 0 (.tmp 11)),
  .s 13 (.ld (.tmp 12)),
  .s 14 (.mv (.tmp 1)),
  .s 15 (.call 113 [(.tmp 13), (.tmp 14)]),
  .s 16 (.nck (.tmp 9)),
  .s 17 (.fa 0 (.tmp 16)),
  .e (.st 1 (.tmp 17) (.tmp 15))])
  (.seq (.reg [.s 18 (.mv (.tmp 5)),
   .s 4 (.mv (.tmp 18))])
  .ret)))), [.t 4]⟩
theorem c_holds_row_less : (compF Go.Proofs.Tryz.prog 56).map linF = some ir_holds_row_less := by kernel_rfl
def ir_slices_DeleteFunc_Hold : FIR := ⟨42, (.seq (.reg [.s 4 (.mv (.const (.slice none 0 0)))])
 (.seq (.reg [.s 8 (.mv (.tmp 0)),
  .s 9 (.mv (.tmp 1)),
  .s 10 (.call 124 [(.tmp 8), (.tmp 9)]),
  .s 5 (.mv (.tmp 10))])
 (.seq (.seq (.reg [.s 11 (.mv (.tmp 5)),
   .s 12 (.bin .eql (.tmp 11) (.const (.int .i64 (-1))))])
  (.cnd (.tmp 12) (.seq (.reg [.s 13 (.mv (.tmp 0)),
    .s 4 (.mv (.tmp 13))])
    .ret)
   .skip))
  (.seq (.seq (.reg [.s 14 (.mv (.tmp 5)),
   .s 15 (.bin .add (.tmp 14) (.const (.int .i64 1))),
   .s 6 (.mv (.tmp 15))])
   (.blk 0 (.loop (.seq (.seq (.reg [.s 16 (.mv (.tmp 6)),
     .s 17 (.mv (.tmp 0)),
     .s 18 (.len (.tmp 17)),
     .s 19 (.bin .lss (.tmp 16) (.tmp 18))])
     (.cnd (.tmp 19) .skip
      (.exit 0)))
    (.seq (.blk 1 (.seq (.reg [.s 22 (.mv (.tmp 0)),
      .s 23 (.mv (.tmp 6)),
      .s 24 (.ia 7 (.tmp 22) (.tmp 23)),
      .s 25 (.ldn 7 (.tmp 24)),
      .s 7 (.new 35 [(.string .empty), (.int .i64 0), (.int .i64 0), (.slice none 0 0), (.slice none 0 0), (.bool false), (.string .empty)]),
      .e (.st 7 (.tmp 7) (.tmp 25))])
      (.seq (.reg [.s 26 (.mv (.tmp 1)),
       .s 27 (.ldn 7 (.tmp 7)),
       .s 28 (.callv (.tmp 26) [(.tmp 27)]),
       .s 29 (.un .not (.tmp 28))])
      (.cnd (.tmp 29) (.seq (.reg [.s 30 (.mv (.tmp 0)),
        .s 31 (.mv (.tmp 5)),
        .s 32 (.ldn 7 (.tmp 7)),
        .s 33 (.ia 7 (.tmp 30) (.tmp 31)),
        .e (.st 7 (.tmp 33) (.tmp 32))])
        (.reg [.s 34 (.mv (.tmp 5)),
        .s 35 (.bin .add (.tmp 34) (.const (.int .i64 1))),
        .s 5 (.mv (.tmp 35))]))
       .skip))))
     (.reg [.s 20 (.mv (.tmp 6)),
     .s 21 (.bin .add (.tmp 20) (.const (.int .i64 1))),
     .s 6 (.mv (.tmp 21))]))))))
  (.seq (.reg [.s 36 (.mv (.tmp 0)),
   .s 37 (.mv (.tmp 5)),
   .s 38 (.sl 7 (.tmp 36) (some (.tmp 37)) none none),
   .e (.clr 7 [(.string .empty), (.int .i64 0), (.int .i64 0), (.slice none 0 0), (.slice none 0 0), (.bool false), (.string .empty)] (.tmp 38))])
   (.seq (.reg [.s 39 (.mv (.tmp 0)),
    .s 40 (.mv (.tmp 5)),
    .s 41 (.sl 7 (.tmp 39) none (some (.tmp 40)) none),
    .s 4 (.mv (.tmp 41))])
   .ret)))))), [.t 4]⟩
theorem c_slices_DeleteFunc_Hold : (compF Go.Proofs.Tryz.prog 113).map linF = some ir_slices_DeleteFunc_Hold := by kernel_rfl
def ir_slices_Index_string : FIR := ⟨19, (.seq (.reg [.s 4 (.mv (.const (.int .i64 0)))])
 (.seq (.seq (.reg [.s 6 (.mv (.tmp 0)),
  .s 7 (.len (.tmp 6)),
  .s 8 (.mv (.const (.int .i64 0)))])
  (.blk 0 (.loop (.seq (.reg [.s 9 (.bin .lss (.tmp 8) (.tmp 7))])
   (.seq (.cnd (.tmp 9) .skip
     (.exit 0))
    (.seq (.blk 1 (.seq (.reg [.s 10 (.mv (.tmp 8)),
      .s 5 (.mv (.tmp 10))])
     (.seq (.reg [.s 11 (.mv (.tmp 1)),
      .s 12 (.mv (.tmp 0)),
      .s 13 (.mv (.tmp 5)),
      .s 14 (.ia 1 (.tmp 12) (.tmp 13)),
      .s 15 (.ld (.tmp 14)),
      .s 16 (.bin .eql (.tmp 11) (.tmp 15))])
      (.cnd (.tmp 16) (.seq (.reg [.s 17 (.mv (.tmp 5)),
        .s 4 (.mv (.tmp 17))])
       .ret)
       .skip))))
    (.reg [.s 18 (.bin .add (.tmp 8) (.const (.int .i64 1))),
     .s 8 (.mv (.tmp 18))])))))))
 (.seq (.reg [.s 4 (.mv (.const (.int .i64 (-1))))])
  .ret))), [.t 4]⟩
theorem c_slices_Index_string : (compF Go.Proofs.Tryz.prog 114).map linF = some ir_slices_Index_string := by kernel_rfl
def ir_slices_Contains_string : FIR := ⟨9, (.seq (.reg [.s 4 (.mv (.const (.bool false)))])
 (.seq (.reg [.s 5 (.mv (.tmp 0)),
  .s 6 (.mv (.tmp 1)),
  .s 7 (.call 114 [(.tmp 5), (.tmp 6)]),
  .s 8 (.bin .geq (.tmp 7) (.const (.int .i64 0))),
  .s 4 (.mv (.tmp 8))])
 .ret)), [.t 4]⟩
theorem c_slices_Contains_string : (compF Go.Proofs.Tryz.prog 58).map linF = some ir_slices_Contains_string := by kernel_rfl
end Go.WK
/-
 The texts in the small language of some loaded functions, each held against the loaded one by the kernel.
-/
namespace Go.WK
open Go
def ir_holds_Holds_Free_1 : FIR := ⟨8, (.seq (.reg [.s 2 (.box 35 (.tmp 0)),
 .s 3 (.mv (.const (.bool false)))])
 (.seq (.reg [.s 4 (.ld (.tmp 1)),
  .s 5 (.fa 0 (.tmp 2)),
  .s 6 (.ld (.tmp 5)),
  .s 7 (.call 58 [(.tmp 4), (.tmp 6)]),
  .s 3 (.mv (.tmp 7))])
 .ret)), [.t 3]⟩
theorem c_holds_Holds_Free_1 : (compF Go.Proofs.Tryz.prog 57).map linF = some ir_holds_Holds_Free_1 := by kernel_rfl
def ir_holds_Holds_In_1 : FIR := ⟨8, (.seq (.reg [.s 2 (.box 35 (.tmp 0)),
 .s 3 (.mv (.const (.bool false)))])
 (.seq (.reg [.s 4 (.ldn 2 (.tmp 1)),
  .s 5 (.fa 0 (.tmp 2)),
  .s 6 (.ld (.tmp 5)),
  .s 7 (.call 34 [(.tmp 4), (.tmp 6)]),
  .s 3 (.mv (.tmp 7))])
 .ret)), [.t 3]⟩
theorem c_holds_Holds_In_1 : (compF Go.Proofs.Tryz.prog 50).map linF = some ir_holds_Holds_In_1 := by kernel_rfl
end Go.WK
/-
 The texts in the small language of some loaded functions, each held against the loaded one by the kernel.
-/
namespace Go.WK
open Go
def ir_slices_BinarySearchFunc_string : FIR := ⟨49, (.seq (.reg [.s 6 (.mv (.const (.int .i64 0))),
 .s 7 (.mv (.const (.bool false)))])
 (.seq (.reg [.s 12 (.mv (.tmp 0)),
  .s 13 (.len (.tmp 12)),
  .s 8 (.mv (.tmp 13))])
 (.seq (.reg [.s 14 (.mv (.tmp 8)),
  .s 9 (.mv (.const (.int .i64 0))),
  .s 10 (.mv (.tmp 14))])
  (.seq (.blk 0 (.loop (.seq (.seq (.reg [.s 15 (.mv (.tmp 9)),
     .s 16 (.mv (.tmp 10)),
     .s 17 (.bin .lss (.tmp 15) (.tmp 16))])
    (.cnd (.tmp 17) .skip
     (.exit 0)))
    (.blk 1 (.seq (.reg [.s 18 (.mv (.tmp 9)),
     .s 19 (.mv (.tmp 10)),
     .s 20 (.bin .add (.tmp 18) (.tmp 19)),
     .s 21 (.cvi .u64 (.tmp 20)),
     .s 22 (.bin .shr (.tmp 21) (.const (.int .u64 1))),
     .s 23 (.cvi .i64 (.tmp 22)),
     .s 11 (.mv (.tmp 23))])
     (.seq (.reg [.s 24 (.mv (.tmp 2)),
      .s 25 (.mv (.tmp 0)),
      .s 26 (.mv (.tmp 11)),
      .s 27 (.ia 7 (.tmp 25) (.tmp 26)),
      .s 28 (.ldn 7 (.tmp 27)),
      .s 29 (.mv (.tmp 1)),
      .s 30 (.callv (.tmp 24) [(.tmp 28), (.tmp 29)]),
      .s 31 (.bin .lss (.tmp 30) (.const (.int .i64 0)))])
     (.cnd (.tmp 31) (.reg [.s 32 (.mv (.tmp 11)),
       .s 33 (.bin .add (.tmp 32) (.const (.int .i64 1))),
       .s 9 (.mv (.tmp 33))])
      (.reg [.s 34 (.mv (.tmp 11)),
       .s 10 (.mv (.tmp 34))]))))))))
  (.seq (.reg [.s 35 (.mv (.tmp 9)),
   .s 36 (.mv (.tmp 9)),
   .s 37 (.mv (.tmp 8)),
   .s 38 (.bin .lss (.tmp 36) (.tmp 37)),
   .s 39 (.mv (.tmp 38)),
   .g 40 39 true (.mv (.tmp 2)),
   .g 41 39 true (.mv (.tmp 0)),
   .g 42 39 true (.mv (.tmp 9)),
   .g 43 39 true (.ia 7 (.tmp 41) (.tmp 42)),
   .g 44 39 true (.ldn 7 (.tmp 43)),
   .g 45 39 true (.mv (.tmp 1)),
   .g 46 39 true (.callv (.tmp 40) [(.tmp 44), (.tmp 45)]),
   .g 47 39 true (.bin .eql (.tmp 46) (.const (.int .i64 0))),
   .s 48 (.pick (.tmp 39) (.tmp 47) (.const (.bool false))),
   .s 6 (.mv (.tmp 35)),
   .s 7 (.mv (.tmp 48))])
   .ret))))), [.t 6, .t 7]⟩
theorem c_slices_BinarySearchFunc_string : (compF Go.Proofs.Tryz.prog 104).map linF = some ir_slices_BinarySearchFunc_string := by kernel_rfl
def ir_holds_row_at_1 : FIR := ⟨9, (.seq (.reg [.s 2 (.box 35 (.tmp 0)),
 .s 4 (.mv (.const (.int .i64 0)))])
 (.seq (.reg [.s 5 (.fa 0 (.tmp 2)),
  .s 6 (.ld (.tmp 5)),
  .s 7 (.mv (.tmp 1)),
  .s 8 (.call 106 [(.tmp 6), (.tmp 7)]),
  .s 4 (.mv (.tmp 8))])
 .ret)), [.t 4]⟩
theorem c_holds_row_at_1 : (compF Go.Proofs.Tryz.prog 105).map linF = some ir_holds_row_at_1 := by kernel_rfl
def ir_holds_row_at : FIR := ⟨14, (.seq (.reg [.s 4 (.mv (.const (.int .i64 0))),
 .s 5 (.mv (.const (.bool false)))])
 (.seq (.reg [.s 6 (.mv (.tmp 0)),
  .s 7 (.nck (.tmp 6)),
  .s 8 (.fa 0 (.tmp 7)),
  .s 9 (.ld (.tmp 8)),
  .s 10 (.mv (.tmp 1)),
  .s 11 (.call 104 [(.tmp 9), (.tmp 10), (.func 105)]),
  .s 12 (.ext 0 (.tmp 11)),
  .s 13 (.ext 1 (.tmp 11)),
  .s 4 (.mv (.tmp 12)),
  .s 5 (.mv (.tmp 13))])
 .ret)), [.t 4, .t 5]⟩
theorem c_holds_row_at : (compF Go.Proofs.Tryz.prog 51).map linF = some ir_holds_row_at := by kernel_rfl
end Go.WK
/-
 The texts in the small language of some loaded functions, each held against the loaded one by the kernel.
-/
namespace Go.WK
open Go
def ir_slices_Insert_Hold : FIR := ⟨95, (.seq (.reg [.s 6 (.mv (.const (.slice none 0 0)))])
 (.seq (.reg [.s 10 (.mv (.tmp 0)),
  .s 11 (.mv (.tmp 1)),
  .s 12 (.sl 7 (.tmp 10) (some (.tmp 11)) none none)])
 (.seq (.reg [.s 13 (.mv (.tmp 2)),
  .s 14 (.len (.tmp 13)),
  .s 7 (.mv (.tmp 14))])
  (.seq (.seq (.reg [.s 15 (.mv (.tmp 7)),
   .s 16 (.bin .eql (.tmp 15) (.const (.int .i64 0)))])
   (.cnd (.tmp 16) (.seq (.reg [.s 17 (.mv (.tmp 0)),
     .s 6 (.mv (.tmp 17))])
    .ret)
    .skip))
  (.seq (.reg [.s 18 (.mv (.tmp 0)),
   .s 19 (.len (.tmp 18)),
   .s 8 (.mv (.tmp 19))])
   (.seq (.seq (.reg [.s 20 (.mv (.tmp 1)),
    .s 21 (.mv (.tmp 8)),
    .s 22 (.bin .eql (.tmp 20) (.tmp 21))])
    (.cnd (.tmp 22) (.seq (.reg [.s 23 (.mv (.tmp 0)),
      .s 24 (.mv (.tmp 2)),
      .s 25 (.app 35 7 104 [(.string .empty), (.int .i64 0), (.int .i64 0), (.slice none 0 0), (.slice none 0 0), (.bool false), (.string .empty)] (.tmp 23) (.tmp 24)),
      .s 6 (.mv (.tmp 25))])
     .ret)
     .skip))
   (.seq (.seq (.reg [.s 26 (.mv (.tmp 8)),
     .s 27 (.mv (.tmp 7)),
     .s 28 (.bin .add (.tmp 26) (.tmp 27)),
     .s 29 (.mv (.tmp 0)),
     .s 30 (.cap (.tmp 29)),
     .s 31 (.bin .gtr (.tmp 28) (.tmp 30))])
    (.cnd (.tmp 31) (.seq (.reg [.s 32 (.mv (.tmp 0)),
      .s 33 (.mv (.tmp 1)),
      .s 34 (.sl 7 (.tmp 32) none (some (.tmp 33)) none),
      .s 35 (.mv (.tmp 8)),
      .s 36 (.mv (.tmp 7)),
      .s 37 (.bin .add (.tmp 35) (.tmp 36)),
      .s 38 (.mv (.tmp 1)),
      .s 39 (.bin .sub (.tmp 37) (.tmp 38)),
      .s 40 (.apz 35 7 104 [(.string .empty), (.int .i64 0), (.int .i64 0), (.slice none 0 0), (.slice none 0 0), (.bool false), (.string .empty)] (.tmp 34) (.tmp 39)),
      .s 9 (.mv (.tmp 40))])
      (.seq (.reg [.s 41 (.mv (.tmp 9)),
       .s 42 (.mv (.tmp 1)),
       .s 43 (.sl 7 (.tmp 41) (some (.tmp 42)) none none),
       .s 44 (.mv (.tmp 2)),
       .s 45 (.cpy 7 (.tmp 43) (.tmp 44))])
      (.seq (.reg [.s 46 (.mv (.tmp 9)),
       .s 47 (.mv (.tmp 1)),
       .s 48 (.mv (.tmp 7)),
       .s 49 (.bin .add (.tmp 47) (.tmp 48)),
       .s 50 (.sl 7 (.tmp 46) (some (.tmp 49)) none none),
       .s 51 (.mv (.tmp 0)),
       .s 52 (.mv (.tmp 1)),
       .s 53 (.sl 7 (.tmp 51) (some (.tmp 52)) none none),
       .s 54 (.cpy 7 (.tmp 50) (.tmp 53))])
       (.seq (.reg [.s 55 (.mv (.tmp 9)),
        .s 6 (.mv (.tmp 55))])
       .ret))))
     .skip))
    (.seq (.reg [.s 56 (.mv (.tmp 0)),
     .s 57 (.mv (.tmp 8)),
     .s 58 (.mv (.tmp 7)),
     .s 59 (.bin .add (.tmp 57) (.tmp 58)),
     .s 60 (.sl 7 (.tmp 56) none (some (.tmp 59)) none),
     .s 0 (.mv (.tmp 60))])
    (.seq (.seq (.reg [.s 61 (.mv (.tmp 2)),
      .s 62 (.mv (.tmp 0)),
      .s 63 (.mv (.tmp 1)),
      .s 64 (.mv (.tmp 7)),
      .s 65 (.bin .add (.tmp 63) (.tmp 64)),
      .s 66 (.sl 7 (.tmp 62) (some (.tmp 65)) none none),
      .s 67 (.call 151 [(.tmp 61), (.tmp 66)]),
      .s 68 (.un .not (.tmp 67))])
     (.cnd (.tmp 68) (.seq (.reg [.s 69 (.mv (.tmp 0)),
       .s 70 (.mv (.tmp 1)),
       .s 71 (.mv (.tmp 7)),
       .s 72 (.bin .add (.tmp 70) (.tmp 71)),
       .s 73 (.sl 7 (.tmp 69) (some (.tmp 72)) none none),
       .s 74 (.mv (.tmp 0)),
       .s 75 (.mv (.tmp 1)),
       .s 76 (.sl 7 (.tmp 74) (some (.tmp 75)) none none),
       .s 77 (.cpy 7 (.tmp 73) (.tmp 76))])
       (.seq (.reg [.s 78 (.mv (.tmp 0)),
        .s 79 (.mv (.tmp 1)),
        .s 80 (.sl 7 (.tmp 78) (some (.tmp 79)) none none),
        .s 81 (.mv (.tmp 2)),
        .s 82 (.cpy 7 (.tmp 80) (.tmp 81))])
       (.seq (.reg [.s 83 (.mv (.tmp 0)),
        .s 6 (.mv (.tmp 83))])
        .ret)))
      .skip))
     (.seq (.reg [.s 84 (.mv (.tmp 0)),
      .s 85 (.mv (.tmp 8)),
      .s 86 (.sl 7 (.tmp 84) (some (.tmp 85)) none none),
      .s 87 (.mv (.tmp 2)),
      .s 88 (.cpy 7 (.tmp 86) (.tmp 87))])
     (.seq (.reg [.s 89 (.mv (.tmp 0)),
      .s 90 (.mv (.tmp 1)),
      .s 91 (.sl 7 (.tmp 89) (some (.tmp 90)) none none),
      .s 92 (.mv (.tmp 7)),
      .s 93 (.call 152 [(.tmp 91), (.tmp 92)])])
      (.seq (.reg [.s 94 (.mv (.tmp 0)),
       .s 6 (.mv (.tmp 94))])
      .ret)))))))))))), [.t 6]⟩
theorem c_slices_Insert_Hold : (compF Go.Proofs.Tryz.prog 107).map linF = some ir_slices_Insert_Hold := by kernel_rfl
def ir_holds_row_lay : FIR := ⟨25, (.seq (.reg [.s 3 (.box 35 (.tmp 1))])
 (.seq (.reg [.s 7 (.mv (.tmp 0)),
  .s 8 (.fa 0 (.tmp 3)),
  .s 9 (.ld (.tmp 8)),
  .s 10 (.call 51 [(.tmp 7), (.tmp 9)]),
  .s 6 (.mv (.tmp 10)),
  .s 11 (.ext 0 (.tmp 6)),
  .s 12 (.ext 1 (.tmp 6)),
  .s 4 (.mv (.tmp 11)),
  .s 5 (.mv (.tmp 12))])
 (.lin [(false, .s 13 (.mv (.tmp 0))),
  (false, .s 14 (.mv (.tmp 0))),
  (false, .s 15 (.nck (.tmp 14))),
  (false, .s 16 (.fa 0 (.tmp 15))),
  (false, .s 17 (.ld (.tmp 16))),
  (false, .s 18 (.mv (.tmp 4))),
  (false, .s 19 (.ldn 7 (.tmp 3))),
  (true, .s 20 (.bsl 35 1 [(.string .empty), (.int .i64 0), (.int .i64 0), (.slice none 0 0), (.slice none 0 0), (.bool false), (.string .empty)] [(0, 7, (.tmp 19))])),
  (true, .s 21 (.call 53 [(.tmp 20)])),
  (true, .s 22 (.call 107 [(.tmp 17), (.tmp 18), (.tmp 21)])),
  (false, .s 23 (.nck (.tmp 13))),
  (false, .s 24 (.fa 0 (.tmp 23))),
  (false, .e (.st 1 (.tmp 24) (.tmp 22)))]))), []⟩
theorem c_holds_row_lay : (compF Go.Proofs.Tryz.prog 52).map linF = some ir_holds_row_lay := by kernel_rfl
end Go.WK
/-
 The texts in the small language of some loaded functions, each held against the loaded one by the kernel.
-/
namespace Go.WK
open Go
def ir_holds_Holds_there : FIR := ⟨11, (.seq (.reg [.s 2 (.mv (.const (.bool false)))])
 (.seq (.reg [.s 3 (.mv (.tmp 0)),
  .s 4 (.eqz .ptr true (.tmp 3) (.const (.pointer none))),
  .s 5 (.mv (.tmp 4)),
  .g 6 5 true (.mv (.tmp 0)),
  .g 7 5 true (.nck (.tmp 6)),
  .g 8 5 true (.fa 1 (.tmp 7)),
  .g 9 5 true (.ld (.tmp 8)),
  .s 10 (.pick (.tmp 5) (.tmp 9) (.const (.bool false))),
  .s 2 (.mv (.tmp 10))])
 .ret)), [.t 2]⟩
theorem c_holds_Holds_there : (compF Go.Proofs.Tryz.prog 48).map linF = some ir_holds_Holds_there := by kernel_rfl
def ir_holds_New : FIR := ⟨3, (.seq (.reg [.s 0 (.mv (.const (.pointer none)))])
 (.seq (.reg [.s 1 (.bld [(.slice none 0 0), (.bool false)] [(1, 1, (.const (.bool true)))]),
  .s 2 (.box 90 (.tmp 1)),
  .s 0 (.mv (.tmp 2))])
 .ret)), [.t 0]⟩
theorem c_holds_New : (compF Go.Proofs.Tryz.prog 38).map linF = some ir_holds_New := by kernel_rfl
def ir_holds_Holds_Many : FIR := ⟨12, (.seq (.reg [.s 2 (.mv (.const (.int .i64 0)))])
 (.seq (.seq (.reg [.s 3 (.mv (.tmp 0)),
  .s 4 (.call 48 [(.tmp 3)]),
  .s 5 (.un .not (.tmp 4))])
  (.cnd (.tmp 5) (.seq (.reg [.s 2 (.mv (.const (.int .i64 0)))])
   .ret)
   .skip))
 (.seq (.reg [.s 6 (.mv (.tmp 0)),
  .s 7 (.nck (.tmp 6)),
  .s 8 (.fa 0 (.tmp 7)),
  .s 9 (.fa 0 (.tmp 8)),
  .s 10 (.ld (.tmp 9)),
  .s 11 (.len (.tmp 10)),
  .s 2 (.mv (.tmp 11))])
  .ret))), [.t 2]⟩
theorem c_holds_Holds_Many : (compF Go.Proofs.Tryz.prog 16).map linF = some ir_holds_Holds_Many := by kernel_rfl
def ir_holds_Holds_In : FIR := ⟨13, (.seq (.reg [.s 3 (.box 31 (.tmp 1)),
 .s 4 (.mv (.const (.slice none 0 0)))])
 (.seq (.seq (.reg [.s 5 (.mv (.tmp 0)),
  .s 6 (.call 48 [(.tmp 5)]),
  .s 7 (.un .not (.tmp 6))])
  (.cnd (.tmp 7) (.seq (.reg [.s 4 (.mv (.const (.slice none 0 0)))])
   .ret)
   .skip))
 (.seq (.reg [.s 8 (.mv (.tmp 0)),
  .s 9 (.nck (.tmp 8)),
  .s 10 (.fa 0 (.tmp 9)),
  .s 11 (.mkf 50 [(.tmp 3)]),
  .s 12 (.call 49 [(.tmp 10), (.tmp 11)]),
  .s 4 (.mv (.tmp 12))])
  .ret))), [.t 4]⟩
theorem c_holds_Holds_In : (compF Go.Proofs.Tryz.prog 12).map linF = some ir_holds_Holds_In := by kernel_rfl
def ir_holds_Holds_Free : FIR := ⟨13, (.seq (.reg [.s 3 (.box 74 (.tmp 1)),
 .s 4 (.mv (.const (.slice none 0 0)))])
 (.seq (.seq (.reg [.s 5 (.mv (.tmp 0)),
  .s 6 (.call 48 [(.tmp 5)]),
  .s 7 (.un .not (.tmp 6))])
  (.cnd (.tmp 7) (.seq (.reg [.s 4 (.mv (.const (.slice none 0 0)))])
   .ret)
   .skip))
 (.seq (.reg [.s 8 (.mv (.tmp 0)),
  .s 9 (.nck (.tmp 8)),
  .s 10 (.fa 0 (.tmp 9)),
  .s 11 (.mkf 57 [(.tmp 3)]),
  .s 12 (.call 56 [(.tmp 10), (.tmp 11)]),
  .s 4 (.mv (.tmp 12))])
  .ret))), [.t 4]⟩
theorem c_holds_Holds_Free : (compF Go.Proofs.Tryz.prog 17).map linF = some ir_holds_Holds_Free := by kernel_rfl
def ir_holds_Holds_Of : FIR := ⟨35, (.seq (.reg [.s 4 (.new 35 [(.string .empty), (.int .i64 0), (.int .i64 0), (.slice none 0 0), (.slice none 0 0), (.bool false), (.string .empty)]),
 .s 5 (.mv (.const (.bool false)))])
 (.seq (.seq (.reg [.s 8 (.mv (.tmp 0)),
  .s 9 (.call 48 [(.tmp 8)]),
  .s 10 (.un .not (.tmp 9))])
  (.cnd (.tmp 10) (.seq (.reg [.s 11 (.bld [(.string .empty), (.int .i64 0), (.int .i64 0), (.slice none 0 0), (.slice none 0 0), (.bool false), (.string .empty)] []),
    .e (.st 7 (.tmp 4) (.tmp 11)),
    .s 5 (.mv (.const (.bool false)))])
   .ret)
   .skip))
 (.seq (.reg [.s 13 (.mv (.tmp 0)),
  .s 14 (.nck (.tmp 13)),
  .s 15 (.fa 0 (.tmp 14)),
  .s 16 (.mv (.tmp 1)),
  .s 17 (.call 51 [(.tmp 15), (.tmp 16)]),
  .s 12 (.mv (.tmp 17)),
  .s 18 (.ext 0 (.tmp 12)),
  .s 19 (.ext 1 (.tmp 12)),
  .s 6 (.mv (.tmp 18)),
  .s 7 (.mv (.tmp 19))])
  (.seq (.seq (.reg [.s 20 (.mv (.tmp 7)),
   .s 21 (.un .not (.tmp 20))])
   (.cnd (.tmp 21) (.seq (.reg [.s 22 (.bld [(.string .empty), (.int .i64 0), (.int .i64 0), (.slice none 0 0), (.slice none 0 0), (.bool false), (.string .empty)] []),
     .e (.st 7 (.tmp 4) (.tmp 22)),
     .s 5 (.mv (.const (.bool false)))])
    .ret)
    .skip))
  (.seq (.reg [.s 23 (.mv (.tmp 0)),
   .s 24 (.nck (.tmp 23)),
   .s 25 (.fa 0 (.tmp 24)),
   .s 26 (.fa 0 (.tmp 25)),
   .s 27 (.ld (.tmp 26)),
   .s 28 (.mv (.tmp 6)),
   .s 29 (.ia 7 (.tmp 27) (.tmp 28)),
   .s 30 (.ldn 7 (.tmp 29)),
   .s 31 (.bsl 35 1 [(.string .empty), (.int .i64 0), (.int .i64 0), (.slice none 0 0), (.slice none 0 0), (.bool false), (.string .empty)] [(0, 7, (.tmp 30))]),
   .s 32 (.call 53 [(.tmp 31)]),
   .s 33 (.ia 7 (.tmp 32) (.const (.int .i64 0))),
   .s 34 (.ldn 7 (.tmp 33)),
   .e (.st 7 (.tmp 4) (.tmp 34)),
   .s 5 (.mv (.const (.bool true)))])
   .ret))))), [.cn 4 7, .t 5]⟩
theorem c_holds_Holds_Of : (compF Go.Proofs.Tryz.prog 14).map linF = some ir_holds_Holds_Of := by kernel_rfl
def ir_holds_Holds_Put : FIR := ⟨74, (.seq (.reg [.s 4 (.mv (.const (.int .i64 0)))])
 (.seq (.seq (.reg [.s 13 (.mv (.tmp 0)),
  .s 14 (.call 48 [(.tmp 13)]),
  .s 15 (.un .not (.tmp 14))])
  (.cnd (.tmp 15) (.seq (.reg [.s 4 (.mv (.const (.int .i64 1)))])
   .ret)
   .skip))
 (.seq (.reg [.s 16 (.mkm),
  .s 5 (.mv (.tmp 16)),
  .s 6 (.mv (.const (.bool false)))])
  (.seq (.seq (.reg [.s 17 (.mv (.tmp 1)),
   .s 18 (.len (.tmp 17)),
   .s 19 (.mv (.const (.int .i64 0)))])
   (.blk 0 (.loop (.seq (.reg [.s 20 (.bin .lss (.tmp 19) (.tmp 18))])
    (.seq (.cnd (.tmp 20) .skip
      (.exit 0))
     (.seq (.blk 1 (.seq (.reg [.s 21 (.ia 7 (.tmp 17) (.tmp 19)),
       .s 22 (.ldn 7 (.tmp 21)),
       .s 8 (.new 35 [(.string .empty), (.int .i64 0), (.int .i64 0), (.slice none 0 0), (.slice none 0 0), (.bool false), (.string .empty)]),
       .e (.st 7 (.tmp 8) (.tmp 22))])
      (.seq (.reg [.s 24 (.mv (.tmp 0)),
       .s 25 (.nck (.tmp 24)),
       .s 26 (.fa 0 (.tmp 25)),
       .s 27 (.fa 0 (.tmp 8)),
       .s 28 (.ld (.tmp 27)),
       .s 29 (.call 51 [(.tmp 26), (.tmp 28)]),
       .s 23 (.mv (.tmp 29)),
       .s 30 (.ext 0 (.tmp 23)),
       .s 31 (.ext 1 (.tmp 23)),
       .s 9 (.mv (.tmp 30)),
       .s 10 (.mv (.tmp 31))])
       (.seq (.reg [.s 32 (.mv (.tmp 6)),
        .s 33 (.mv (.tmp 32)),
        .g 34 33 false (.mv (.tmp 10)),
        .s 35 (.pick (.tmp 33) (.const (.bool true)) (.tmp 34)),
        .s 6 (.mv (.tmp 35))])
       (.reg [.s 36 (.mv (.tmp 5)),
        .s 37 (.fa 0 (.tmp 8)),
        .s 38 (.ld (.tmp 37)),
        .e (.mup .s (.tmp 36) (.tmp 38) (.const (.bool true)))])))))
     (.reg [.s 39 (.bin .add (.tmp 19) (.const (.int .i64 1))),
      .s 19 (.mv (.tmp 39))])))))))
  (.seq (.blk 2 (.seq (.seq (.reg [.s 41 (.mv (.tmp 5)),
     .s 42 (.mlen (.tmp 41)),
     .s 43 (.mv (.tmp 1)),
     .s 44 (.len (.tmp 43)),
     .s 45 (.bin .lss (.tmp 42) (.tmp 44)),
     .s 40 (.mv (.tmp 45))])
    (.cnd (.tmp 40) .skip
     (.reg [.s 46 (.mv (.tmp 1)),
      .s 47 (.call 25 [(.tmp 46)]),
      .s 48 (.un .not (.tmp 47)),
      .s 40 (.mv (.tmp 48))])))
    (.cnd (.tmp 40) (.seq (.reg [.s 4 (.mv (.const (.int .i64 2)))])
     .ret)
     (.seq (.reg [.s 50 (.mv (.tmp 6)),
      .s 49 (.mv (.tmp 50))])
     (.cnd (.tmp 49) (.seq (.reg [.s 4 (.mv (.const (.int .i64 7)))])
       .ret)
      (.seq (.reg [.s 52 (.mv (.tmp 0)),
       .s 53 (.nck (.tmp 52)),
       .s 54 (.fa 0 (.tmp 53)),
       .s 55 (.fa 0 (.tmp 54)),
       .s 56 (.ld (.tmp 55)),
       .s 57 (.len (.tmp 56)),
       .s 58 (.mv (.tmp 1)),
       .s 59 (.len (.tmp 58)),
       .s 60 (.bin .add (.tmp 57) (.tmp 59)),
       .s 61 (.bin .gtr (.tmp 60) (.const (.int .i64 60))),
       .s 51 (.mv (.tmp 61))])
       (.cnd (.tmp 51) (.seq (.reg [.s 4 (.mv (.const (.int .i64 8)))])
        .ret)
        .skip)))))))
   (.seq (.seq (.reg [.s 62 (.mv (.tmp 1)),
    .s 63 (.len (.tmp 62)),
    .s 64 (.mv (.const (.int .i64 0)))])
    (.blk 3 (.loop (.seq (.reg [.s 65 (.bin .lss (.tmp 64) (.tmp 63))])
     (.seq (.cnd (.tmp 65) .skip
       (.exit 3))
      (.seq (.blk 4 (.seq (.reg [.s 66 (.ia 7 (.tmp 62) (.tmp 64)),
        .s 67 (.ldn 7 (.tmp 66)),
        .s 12 (.new 35 [(.string .empty), (.int .i64 0), (.int .i64 0), (.slice none 0 0), (.slice none 0 0), (.bool false), (.string .empty)]),
        .e (.st 7 (.tmp 12) (.tmp 67))])
       (.reg [.s 68 (.mv (.tmp 0)),
        .s 69 (.nck (.tmp 68)),
        .s 70 (.fa 0 (.tmp 69)),
        .s 71 (.ldn 7 (.tmp 12)),
        .s 72 (.call 52 [(.tmp 70), (.tmp 71)])])))
      (.reg [.s 73 (.bin .add (.tmp 64) (.const (.int .i64 1))),
       .s 64 (.mv (.tmp 73))])))))))
   (.seq (.reg [.s 4 (.mv (.const (.int .i64 0)))])
    .ret))))))), [.t 4]⟩
theorem c_holds_Holds_Put : (compF Go.Proofs.Tryz.prog 13).map linF = some ir_holds_Holds_Put := by kernel_rfl
end Go.WK
/-
 The texts in the small language of some loaded functions, each held against the loaded one by the kernel.
-/
namespace Go.WK
open Go
def ir_slices_Values_string : FIR := ⟨4, (.seq (.reg [.s 1 (.box 74 (.tmp 0)),
 .s 2 (.mv (.const .nilFunc))])
 (.seq (.reg [.s 3 (.mkf 112 [(.tmp 1)]),
  .s 2 (.mv (.tmp 3))])
 .ret)), [.t 2]⟩
theorem c_slices_Values_string : (compF Go.Proofs.Tryz.prog 55).map linF = some ir_slices_Values_string := by kernel_rfl
def ir_holds_Holds_Busy : FIR := ⟨37, (.seq (.reg [.s 4 (.box 24 (.tmp 1)),
 .s 6 (.new 24 [(.int .i64 0), (.int .i64 0)]),
 .s 7 (.mv (.const (.bool false)))])
 (.seq (.seq (.reg [.s 12 (.mv (.tmp 2)),
  .s 13 (.call 55 [(.tmp 12)]),
  .s 14 (.call 54 [(.tmp 13)]),
  .s 15 (.len (.tmp 14)),
  .s 16 (.mv (.const (.int .i64 0)))])
  (.blk 0 (.loop (.seq (.reg [.s 17 (.bin .lss (.tmp 16) (.tmp 15))])
   (.seq (.cnd (.tmp 17) .skip
     (.exit 0))
    (.seq (.blk 1 (.seq (.reg [.s 18 (.ia 1 (.tmp 14) (.tmp 16)),
      .s 19 (.ld (.tmp 18)),
      .s 9 (.mv (.tmp 19))])
     (.seq (.reg [.s 21 (.mv (.tmp 0)),
      .s 22 (.mv (.tmp 9)),
      .s 23 (.call 14 [(.tmp 21), (.tmp 22)]),
      .s 20 (.mv (.tmp 23)),
      .s 24 (.ext 0 (.tmp 20)),
      .s 25 (.ext 1 (.tmp 20)),
      .s 10 (.new 35 [(.string .empty), (.int .i64 0), (.int .i64 0), (.slice none 0 0), (.slice none 0 0), (.bool false), (.string .empty)]),
      .e (.st 7 (.tmp 10) (.tmp 24)),
      .s 11 (.mv (.tmp 25))])
      (.seq (.reg [.s 26 (.mv (.tmp 11)),
       .s 27 (.mv (.tmp 26)),
       .g 28 27 true (.fa 1 (.tmp 10)),
       .g 29 27 true (.ldn 2 (.tmp 28)),
       .g 30 27 true (.ldn 2 (.tmp 4)),
       .g 31 27 true (.eqs [.i, .i] true (.tmp 29) (.tmp 30)),
       .s 32 (.pick (.tmp 27) (.tmp 31) (.const (.bool false)))])
      (.cnd (.tmp 32) (.seq (.reg [.s 33 (.fa 1 (.tmp 10)),
        .s 34 (.ldn 2 (.tmp 33)),
        .e (.st 2 (.tmp 6) (.tmp 34)),
        .s 7 (.mv (.const (.bool true)))])
        .ret)
       .skip)))))
    (.reg [.s 35 (.bin .add (.tmp 16) (.const (.int .i64 1))),
     .s 16 (.mv (.tmp 35))])))))))
 (.seq (.reg [.s 36 (.bld [(.int .i64 0), (.int .i64 0)] []),
  .e (.st 2 (.tmp 6) (.tmp 36)),
  .s 7 (.mv (.const (.bool false)))])
  .ret))), [.cn 6 2, .t 7]⟩
theorem c_holds_Holds_Busy : (compF Go.Proofs.Tryz.prog 15).map linF = some ir_holds_Holds_Busy := by kernel_rfl
def ir_watershedlaw16_plain : FIR := ⟨15, (.seq (.reg [.s 4 (.new 35 [(.string .empty), (.int .i64 0), (.int .i64 0), (.slice none 0 0), (.slice none 0 0), (.bool false), (.string .empty)])])
 (.seq (.reg [.s 5 (.mv (.tmp 0)),
  .s 6 (.mv (.tmp 1)),
  .s 7 (.bld [(.int .i64 0), (.int .i64 0)] [(0, 1, (.tmp 6)), (1, 1, (.const (.int .i64 1)))]),
  .s 8 (.mv (.tmp 0)),
  .s 9 (.bld [(.int .u8 0), (.string .empty), (.string .empty), (.int .i64 0)] [(0, 1, (.const (.int .u8 1))), (1, 1, (.tmp 8))]),
  .s 10 (.bsl 98 1 [(.int .u8 0), (.string .empty), (.string .empty), (.int .i64 0)] [(0, 4, (.tmp 9))]),
  .s 11 (.mv (.tmp 0)),
  .s 12 (.bld [(.string .empty), (.bool false), (.string .empty)] [(0, 1, (.tmp 11))]),
  .s 13 (.bsl 100 1 [(.string .empty), (.bool false), (.string .empty)] [(0, 3, (.tmp 12))]),
  .s 14 (.bld [(.string .empty), (.int .i64 0), (.int .i64 0), (.slice none 0 0), (.slice none 0 0), (.bool false), (.string .empty)] [(0, 1, (.tmp 5)), (1, 2, (.tmp 7)), (3, 1, (.tmp 10)), (4, 1, (.tmp 13))]),
  .e (.st 7 (.tmp 4) (.tmp 14))])
 .ret)), [.cn 4 7]⟩
theorem c_watershedlaw16_plain : (compF Go.Proofs.Tryz.prog 46).map linF = some ir_watershedlaw16_plain := by kernel_rfl
def ir_watershedlaw16_made : FIR := ⟨20, (.seq (.reg [.s 2 (.mv (.const (.pointer none)))])
 (.seq (.reg [.s 5 (.call 38 []),
  .s 3 (.mv (.tmp 5))])
 (.seq (.seq (.reg [.s 4 (.mv (.const (.int .i64 0)))])
  (.blk 0 (.loop (.seq (.seq (.reg [.s 6 (.mv (.tmp 4)),
     .s 7 (.mv (.tmp 0)),
     .s 8 (.len (.tmp 7)),
     .s 9 (.bin .lss (.tmp 6) (.tmp 8))])
    (.cnd (.tmp 9) .skip
     (.exit 0)))
    (.seq (.blk 1 (.reg [.s 12 (.mv (.tmp 3)),
     .s 13 (.mv (.tmp 0)),
     .s 14 (.mv (.tmp 4)),
     .s 15 (.ia 7 (.tmp 13) (.tmp 14)),
     .s 16 (.ldn 7 (.tmp 15)),
     .s 17 (.bsl 35 1 [(.string .empty), (.int .i64 0), (.int .i64 0), (.slice none 0 0), (.slice none 0 0), (.bool false), (.string .empty)] [(0, 7, (.tmp 16))]),
     .s 18 (.call 13 [(.tmp 12), (.tmp 17)])]))
    (.reg [.s 10 (.mv (.tmp 4)),
     .s 11 (.bin .add (.tmp 10) (.const (.int .i64 1))),
     .s 4 (.mv (.tmp 11))]))))))
  (.seq (.reg [.s 19 (.mv (.tmp 3)),
   .s 2 (.mv (.tmp 19))])
  .ret)))), [.t 2]⟩
theorem c_watershedlaw16_made : (compF Go.Proofs.Tryz.prog 11).map linF = some ir_watershedlaw16_made := by kernel_rfl
def ir_watershedlaw16_awake : FIR := ⟨45, (.seq (.reg [.s 0 (.mv (.const (.bool false)))])
 (.seq (.reg [.s 7 (.call 38 []),
  .s 1 (.mv (.tmp 7))])
 (.seq (.reg [.s 8 (.mv (.tmp 1)),
  .s 9 (.call 46 [(.const (.string ⟨#[107]⟩)), (.const (.int .i64 1))]),
  .s 10 (.bsl 35 1 [(.string .empty), (.int .i64 0), (.int .i64 0), (.slice none 0 0), (.slice none 0 0), (.bool false), (.string .empty)] [(0, 7, (.tmp 9))]),
  .s 11 (.call 13 [(.tmp 8), (.tmp 10)]),
  .s 2 (.mv (.tmp 11))])
  (.seq (.reg [.s 13 (.mv (.tmp 1)),
   .s 14 (.bld [(.int .i64 0), (.int .i64 0)] [(0, 1, (.const (.int .i64 1))), (1, 1, (.const (.int .i64 1)))]),
   .s 15 (.bsl 9 1 [(.string .empty)] [(0, 1, (.const (.string ⟨#[107]⟩)))]),
   .s 16 (.call 15 [(.tmp 13), (.tmp 14), (.tmp 15)]),
   .s 12 (.mv (.tmp 16)),
   .s 17 (.ext 0 (.tmp 12)),
   .s 18 (.ext 1 (.tmp 12)),
   .s 3 (.new 24 [(.int .i64 0), (.int .i64 0)]),
   .e (.st 2 (.tmp 3) (.tmp 17)),
   .s 4 (.mv (.tmp 18))])
  (.seq (.reg [.s 20 (.mv (.tmp 1)),
   .s 21 (.bld [(.int .i64 0), (.int .i64 0)] [(0, 1, (.const (.int .i64 2))), (1, 1, (.const (.int .i64 1)))]),
   .s 22 (.bsl 9 1 [(.string .empty)] [(0, 1, (.const (.string ⟨#[107]⟩)))]),
   .s 23 (.call 15 [(.tmp 20), (.tmp 21), (.tmp 22)]),
   .s 19 (.mv (.tmp 23)),
   .s 24 (.ext 0 (.tmp 19)),
   .s 25 (.ext 1 (.tmp 19)),
   .s 5 (.new 24 [(.int .i64 0), (.int .i64 0)]),
   .e (.st 2 (.tmp 5) (.tmp 24)),
   .s 6 (.mv (.tmp 25))])
   (.seq (.reg [.s 26 (.mv (.tmp 2)),
    .s 27 (.bin .eql (.tmp 26) (.const (.int .i64 0))),
    .s 28 (.mv (.tmp 27)),
    .g 29 28 true (.mv (.tmp 4)),
    .g 30 28 true (.un .not (.tmp 29)),
    .s 31 (.pick (.tmp 28) (.tmp 30) (.const (.bool false))),
    .s 32 (.mv (.tmp 31)),
    .g 33 32 true (.mv (.tmp 6)),
    .s 34 (.pick (.tmp 32) (.tmp 33) (.const (.bool false))),
    .s 35 (.mv (.tmp 34)),
    .g 36 35 true (.ldn 2 (.tmp 5)),
    .g 37 35 true (.bld [(.int .i64 0), (.int .i64 0)] [(0, 1, (.const (.int .i64 1))), (1, 1, (.const (.int .i64 1)))]),
    .g 38 35 true (.eqs [.i, .i] false (.tmp 36) (.tmp 37)),
    .s 39 (.pick (.tmp 35) (.tmp 38) (.const (.bool false))),
    .s 40 (.mv (.tmp 39)),
    .g 41 40 true (.mv (.tmp 1)),
    .g 42 40 true (.call 16 [(.tmp 41)]),
    .g 43 40 true (.bin .eql (.tmp 42) (.const (.int .i64 1))),
    .s 44 (.pick (.tmp 40) (.tmp 43) (.const (.bool false))),
    .s 0 (.mv (.tmp 44))])
   .ret)))))), [.t 0]⟩
theorem c_watershedlaw16_awake : (compF Go.Proofs.Tryz.prog 9).map linF = some ir_watershedlaw16_awake := by kernel_rfl
end Go.WK
/-
 The texts in the small language of some loaded functions, each held against the loaded one by the kernel.
-/
namespace Go.WK
open Go
def ir_holds_Write : FIR := ⟨103, (.seq (.reg [.s 4 (.mv (.const (.pointer none)))])
 (.seq (.reg [.s 11 (.mv (.tmp 0)),
  .s 12 (.mv (.tmp 1)),
  .s 13 (.len (.tmp 12)),
  .s 14 (.bsl 3 1 [(.int .i64 0)] [(0, 1, (.tmp 13))]),
  .s 15 (.call 63 [(.tmp 11), (.tmp 14)])])
 (.seq (.seq (.reg [.s 16 (.mv (.tmp 1)),
   .s 17 (.len (.tmp 16)),
   .s 18 (.mv (.const (.int .i64 0)))])
  (.blk 0 (.loop (.seq (.reg [.s 19 (.bin .lss (.tmp 18) (.tmp 17))])
    (.seq (.cnd (.tmp 19) .skip
     (.exit 0))
    (.seq (.blk 1 (.seq (.reg [.s 20 (.ia 7 (.tmp 16) (.tmp 18)),
      .s 21 (.ldn 7 (.tmp 20)),
      .s 6 (.new 35 [(.string .empty), (.int .i64 0), (.int .i64 0), (.slice none 0 0), (.slice none 0 0), (.bool false), (.string .empty)]),
      .e (.st 7 (.tmp 6) (.tmp 21))])
      (.seq (.alc [(.st, .s 22 (.mv (.tmp 0))),
       (.st, .s 23 (.fa 0 (.tmp 6))),
       (.st, .s 24 (.ld (.tmp 23))),
       (.st, .s 27 (.fa 1 (.tmp 6))),
       (.st, .s 28 (.fa 0 (.tmp 27))),
       (.st, .s 29 (.ld (.tmp 28))),
       (.st, .s 30 (.fa 1 (.tmp 6))),
       (.st, .s 31 (.fa 1 (.tmp 30))),
       (.st, .s 32 (.ld (.tmp 31))),
       (.st, .s 33 (.fa 3 (.tmp 6))),
       (.st, .s 34 (.ld (.tmp 33))),
       (.st, .s 35 (.len (.tmp 34))),
       (.al, .s 25 (.bsl 9 1 [(.string .empty)] [(0, 1, (.tmp 24))])),
       (.ac [.s 36 (.bsl 3 3 [(.int .i64 0), (.int .i64 0), (.int .i64 0)] [(0, 1, (.tmp 29)), (1, 1, (.tmp 32)), (2, 1, (.tmp 35))])], .s 26 (.call 64 [(.tmp 22), (.tmp 25)])),
       (.al, .s 36 (.bsl 3 3 [(.int .i64 0), (.int .i64 0), (.int .i64 0)] [(0, 1, (.tmp 29)), (1, 1, (.tmp 32)), (2, 1, (.tmp 35))])),
       (.fi true, .s 37 (.call 63 [(.tmp 26), (.tmp 36)]))])
      (.seq (.seq (.reg [.s 38 (.fa 3 (.tmp 6)),
        .s 39 (.ld (.tmp 38)),
        .s 40 (.len (.tmp 39)),
        .s 41 (.mv (.const (.int .i64 0)))])
       (.blk 2 (.loop (.seq (.reg [.s 42 (.bin .lss (.tmp 41) (.tmp 40))])
         (.seq (.cnd (.tmp 42) .skip
          (.exit 2))
         (.seq (.blk 3 (.seq (.reg [.s 43 (.ia 4 (.tmp 39) (.tmp 41)),
           .s 44 (.ldn 4 (.tmp 43)),
           .s 8 (.new 98 [(.int .u8 0), (.string .empty), (.string .empty), (.int .i64 0)]),
           .e (.st 4 (.tmp 8) (.tmp 44))])
           (.alc [(.st, .s 45 (.mv (.tmp 0))),
           (.st, .s 46 (.fa 0 (.tmp 8))),
           (.st, .s 47 (.ld (.tmp 46))),
           (.st, .s 48 (.cvi .i64 (.tmp 47))),
           (.st, .s 51 (.fa 2 (.tmp 8))),
           (.st, .s 52 (.ld (.tmp 51))),
           (.st, .s 55 (.fa 3 (.tmp 8))),
           (.st, .s 56 (.ld (.tmp 55))),
           (.st, .s 57 (.bin .lss (.tmp 56) (.const (.int .i64 0)))),
           (.st, .s 60 (.fa 3 (.tmp 8))),
           (.st, .s 61 (.ld (.tmp 60))),
           (.st, .s 62 (.fa 3 (.tmp 8))),
           (.st, .s 63 (.ld (.tmp 62))),
           (.st, .s 64 (.un .neg (.tmp 63))),
           (.st, .s 65 (.mx [(.tmp 61), (.tmp 64)])),
           (.al, .s 49 (.bsl 3 1 [(.int .i64 0)] [(0, 1, (.tmp 48))])),
           (.ac [.s 53 (.bsl 9 1 [(.string .empty)] [(0, 1, (.tmp 52))]), .s 58 (.bsl 4 1 [(.bool false)] [(0, 1, (.tmp 57))]), .s 66 (.bsl 3 1 [(.int .i64 0)] [(0, 1, (.tmp 65))])], .s 50 (.call 63 [(.tmp 45), (.tmp 49)])),
           (.al, .s 53 (.bsl 9 1 [(.string .empty)] [(0, 1, (.tmp 52))])),
           (.ac [.s 58 (.bsl 4 1 [(.bool false)] [(0, 1, (.tmp 57))]), .s 66 (.bsl 3 1 [(.int .i64 0)] [(0, 1, (.tmp 65))])], .s 54 (.call 64 [(.tmp 50), (.tmp 53)])),
           (.al, .s 58 (.bsl 4 1 [(.bool false)] [(0, 1, (.tmp 57))])),
           (.ac [.s 66 (.bsl 3 1 [(.int .i64 0)] [(0, 1, (.tmp 65))])], .s 59 (.call 65 [(.tmp 54), (.tmp 58)])),
           (.al, .s 66 (.bsl 3 1 [(.int .i64 0)] [(0, 1, (.tmp 65))])),
           (.fi true, .s 67 (.call 63 [(.tmp 59), (.tmp 66)]))])))
          (.reg [.s 68 (.bin .add (.tmp 41) (.const (.int .i64 1))),
          .s 41 (.mv (.tmp 68))])))))))
       (.seq (.reg [.s 69 (.mv (.tmp 0)),
        .s 70 (.fa 4 (.tmp 6)),
        .s 71 (.ld (.tmp 70)),
        .s 72 (.len (.tmp 71)),
        .s 73 (.bsl 3 1 [(.int .i64 0)] [(0, 1, (.tmp 72))]),
        .s 74 (.call 63 [(.tmp 69), (.tmp 73)])])
       (.seq (.seq (.reg [.s 75 (.fa 4 (.tmp 6)),
         .s 76 (.ld (.tmp 75)),
         .s 77 (.len (.tmp 76)),
         .s 78 (.mv (.const (.int .i64 0)))])
        (.blk 4 (.loop (.seq (.reg [.s 79 (.bin .lss (.tmp 78) (.tmp 77))])
          (.seq (.cnd (.tmp 79) .skip
           (.exit 4))
          (.seq (.blk 5 (.seq (.reg [.s 80 (.ia 3 (.tmp 76) (.tmp 78)),
            .s 81 (.ldn 3 (.tmp 80)),
            .s 10 (.new 100 [(.string .empty), (.bool false), (.string .empty)]),
            .e (.st 3 (.tmp 10) (.tmp 81))])
            (.alc [(.st, .s 82 (.mv (.tmp 0))),
            (.st, .s 83 (.fa 1 (.tmp 10))),
            (.st, .s 84 (.ld (.tmp 83))),
            (.st, .s 87 (.fa 2 (.tmp 10))),
            (.st, .s 88 (.ld (.tmp 87))),
            (.al, .s 85 (.bsl 4 1 [(.bool false)] [(0, 1, (.tmp 84))])),
            (.ac [.s 89 (.bsl 9 1 [(.string .empty)] [(0, 1, (.tmp 88))])], .s 86 (.call 65 [(.tmp 82), (.tmp 85)])),
            (.al, .s 89 (.bsl 9 1 [(.string .empty)] [(0, 1, (.tmp 88))])),
            (.fi true, .s 90 (.call 64 [(.tmp 86), (.tmp 89)]))])))
           (.reg [.s 91 (.bin .add (.tmp 78) (.const (.int .i64 1))),
           .s 78 (.mv (.tmp 91))])))))))
        (.alc [(.st, .s 92 (.mv (.tmp 0))),
        (.st, .s 93 (.fa 5 (.tmp 6))),
        (.st, .s 94 (.ld (.tmp 93))),
        (.st, .s 97 (.fa 6 (.tmp 6))),
        (.st, .s 98 (.ld (.tmp 97))),
        (.al, .s 95 (.bsl 4 1 [(.bool false)] [(0, 1, (.tmp 94))])),
        (.ac [.s 99 (.bsl 9 1 [(.string .empty)] [(0, 1, (.tmp 98))])], .s 96 (.call 65 [(.tmp 92), (.tmp 95)])),
        (.al, .s 99 (.bsl 9 1 [(.string .empty)] [(0, 1, (.tmp 98))])),
        (.fi true, .s 100 (.call 64 [(.tmp 96), (.tmp 99)]))])))))))
     (.reg [.s 101 (.bin .add (.tmp 18) (.const (.int .i64 1))),
     .s 18 (.mv (.tmp 101))])))))))
  (.seq (.reg [.s 102 (.mv (.tmp 0)),
   .s 4 (.mv (.tmp 102))])
  .ret)))), [.t 4]⟩
theorem c_holds_Write : (compF Go.Proofs.Tryz.prog 20).map linF = some ir_holds_Write := by kernel_rfl
end Go.WK
/-
 The texts in the small language of some loaded functions, each held against the loaded one by the kernel.
-/
namespace Go.WK
open Go
def ir_holds_acts : FIR := ⟨42, (.seq (.reg [.s 4 (.mv (.const (.slice none 0 0))),
 .s 5 (.mv (.const (.bool false)))])
 (.seq (.reg [.s 5 (.mv (.const (.bool true)))])
 (.seq (.seq (.reg [.s 8 (.mv (.tmp 0)),
   .s 9 (.call 74 [(.tmp 8), (.const (.int .i64 6))]),
   .s 10 (.mv (.const (.int .i64 0)))])
  (.blk 0 (.loop (.seq (.reg [.s 11 (.bin .lss (.tmp 10) (.tmp 9))])
    (.seq (.cnd (.tmp 11) .skip
     (.exit 0))
    (.seq (.blk 1 (.seq (.reg [.s 12 (.mv (.tmp 0)),
      .s 13 (.call 74 [(.tmp 12), (.const (.int .i64 3))]),
      .s 14 (.cvi .u8 (.tmp 13)),
      .s 15 (.mv (.tmp 1)),
      .s 16 (.mv (.tmp 0)),
      .s 17 (.call 135 [(.tmp 16), (.const (.int .i64 20))]),
      .s 18 (.bld [(.int .u8 0), (.string .empty), (.string .empty), (.int .i64 0)] [(0, 1, (.tmp 14)), (1, 1, (.tmp 15)), (2, 1, (.tmp 17))]),
      .s 6 (.new 98 [(.int .u8 0), (.string .empty), (.string .empty), (.int .i64 0)]),
      .e (.st 4 (.tmp 6) (.tmp 18))])
      (.seq (.reg [.s 19 (.mv (.tmp 0)),
       .s 20 (.call 137 [(.tmp 19)]),
       .s 7 (.mv (.tmp 20))])
      (.seq (.seq (.reg [.s 21 (.mv (.tmp 0)),
        .s 22 (.call 74 [(.tmp 21), (.const (.int .i64 1073741824))]),
        .s 23 (.fa 3 (.tmp 6)),
        .e (.st 1 (.tmp 23) (.tmp 22))])
       (.seq (.reg [.s 24 (.mv (.tmp 7))])
        (.cnd (.tmp 24) (.seq (.reg [.s 25 (.mv (.tmp 5)),
          .s 26 (.mv (.tmp 25)),
          .g 27 26 true (.fa 3 (.tmp 6)),
          .g 28 26 true (.ld (.tmp 27)),
          .g 29 26 true (.bin .gtr (.tmp 28) (.const (.int .i64 0))),
          .s 30 (.pick (.tmp 26) (.tmp 29) (.const (.bool false))),
          .s 5 (.mv (.tmp 30))])
         (.reg [.s 31 (.fa 3 (.tmp 6)),
          .s 32 (.ld (.tmp 31)),
          .s 33 (.un .neg (.tmp 32)),
          .s 34 (.fa 3 (.tmp 6)),
          .e (.st 1 (.tmp 34) (.tmp 33))]))
         .skip)))
       (.reg [.s 35 (.mv (.tmp 4)),
       .s 36 (.ldn 4 (.tmp 6)),
       .s 37 (.bsl 98 1 [(.int .u8 0), (.string .empty), (.string .empty), (.int .i64 0)] [(0, 4, (.tmp 36))]),
       .s 38 (.app 98 4 48 [(.int .u8 0), (.string .empty), (.string .empty), (.int .i64 0)] (.tmp 35) (.tmp 37)),
       .s 4 (.mv (.tmp 38))])))))
     (.reg [.s 39 (.bin .add (.tmp 10) (.const (.int .i64 1))),
     .s 10 (.mv (.tmp 39))])))))))
  (.seq (.reg [.s 40 (.mv (.tmp 4)),
   .s 41 (.mv (.tmp 5)),
   .s 4 (.mv (.tmp 40)),
   .s 5 (.mv (.tmp 41))])
  .ret)))), [.t 4, .t 5]⟩
theorem c_holds_acts : (compF Go.Proofs.Tryz.prog 136).map linF = some ir_holds_acts := by kernel_rfl
def ir_holds_hold : FIR := ⟨55, (.seq (.reg [.s 2 (.new 35 [(.string .empty), (.int .i64 0), (.int .i64 0), (.slice none 0 0), (.slice none 0 0), (.bool false), (.string .empty)]),
 .s 3 (.mv (.const (.bool false)))])
 (.seq (.reg [.s 5 (.mv (.tmp 0)),
  .s 6 (.call 135 [(.tmp 5), (.const (.int .i64 20))]),
  .s 7 (.fa 0 (.tmp 2)),
  .e (.st 1 (.tmp 7) (.tmp 6))])
 (.seq (.reg [.s 8 (.mv (.tmp 0)),
  .s 9 (.call 74 [(.tmp 8), (.const (.int .i64 8))]),
  .s 10 (.fa 1 (.tmp 2)),
  .s 11 (.fa 0 (.tmp 10)),
  .e (.st 1 (.tmp 11) (.tmp 9))])
  (.seq (.reg [.s 12 (.mv (.tmp 0)),
   .s 13 (.call 74 [(.tmp 12), (.const (.int .i64 1073741824))]),
   .s 14 (.fa 1 (.tmp 2)),
   .s 15 (.fa 1 (.tmp 14)),
   .e (.st 1 (.tmp 15) (.tmp 13))])
  (.seq (.reg [.s 17 (.mv (.tmp 0)),
   .s 18 (.fa 0 (.tmp 2)),
   .s 19 (.ld (.tmp 18)),
   .s 20 (.call 136 [(.tmp 17), (.tmp 19)]),
   .s 16 (.mv (.tmp 20)),
   .s 21 (.ext 0 (.tmp 16)),
   .s 22 (.ext 1 (.tmp 16)),
   .s 23 (.fa 3 (.tmp 2)),
   .e (.st 1 (.tmp 23) (.tmp 21)),
   .s 3 (.mv (.tmp 22))])
   (.seq (.seq (.reg [.s 24 (.mv (.tmp 0)),
    .s 25 (.call 74 [(.tmp 24), (.const (.int .i64 6))]),
    .s 26 (.mv (.const (.int .i64 0)))])
    (.blk 0 (.loop (.seq (.reg [.s 27 (.bin .lss (.tmp 26) (.tmp 25))])
     (.seq (.cnd (.tmp 27) .skip
       (.exit 0))
      (.seq (.blk 1 (.seq (.alc [(.st, .s 28 (.fa 0 (.tmp 2))),
        (.st, .s 29 (.ld (.tmp 28))),
        (.st, .s 30 (.mv (.tmp 0))),
        (.ac [.s 4 (.new 100 [(.string .empty), (.bool false), (.string .empty)])], .s 31 (.call 137 [(.tmp 30)])),
        (.st, .s 32 (.bld [(.string .empty), (.bool false), (.string .empty)] [(0, 1, (.tmp 29)), (1, 1, (.tmp 31))])),
        (.al, .s 4 (.new 100 [(.string .empty), (.bool false), (.string .empty)])),
        (.fi false, .e (.st 3 (.tmp 4) (.tmp 32)))])
       (.seq (.reg [.s 33 (.mv (.tmp 0)),
        .s 34 (.call 135 [(.tmp 33), (.const (.int .i64 20))]),
        .s 35 (.fa 2 (.tmp 4)),
        .e (.st 1 (.tmp 35) (.tmp 34))])
        (.reg [.s 36 (.fa 4 (.tmp 2)),
        .s 37 (.ld (.tmp 36)),
        .s 38 (.ldn 3 (.tmp 4)),
        .s 39 (.bsl 100 1 [(.string .empty), (.bool false), (.string .empty)] [(0, 3, (.tmp 38))]),
        .s 40 (.app 100 3 40 [(.string .empty), (.bool false), (.string .empty)] (.tmp 37) (.tmp 39)),
        .s 41 (.fa 4 (.tmp 2)),
        .e (.st 1 (.tmp 41) (.tmp 40))]))))
      (.reg [.s 42 (.bin .add (.tmp 26) (.const (.int .i64 1))),
       .s 26 (.mv (.tmp 42))])))))))
   (.seq (.reg [.s 43 (.mv (.tmp 0)),
    .s 44 (.call 137 [(.tmp 43)]),
    .s 45 (.fa 5 (.tmp 2)),
    .e (.st 1 (.tmp 45) (.tmp 44))])
    (.seq (.reg [.s 46 (.mv (.tmp 0)),
     .s 47 (.call 135 [(.tmp 46), (.const (.int .i64 20))]),
     .s 48 (.fa 6 (.tmp 2)),
     .e (.st 1 (.tmp 48) (.tmp 47))])
    (.seq (.lin [(false, .s 49 (.ldn 7 (.tmp 2))),
     (false, .s 50 (.mv (.tmp 3))),
     (false, .s 51 (.mv (.tmp 50))),
     (false, .g 52 51 true (.ldn 7 (.tmp 2))),
     (true, .g 53 51 true (.call 71 [(.tmp 52)])),
     (false, .s 54 (.pick (.tmp 51) (.tmp 53) (.const (.bool false)))),
     (false, .e (.st 7 (.tmp 2) (.tmp 49))),
     (false, .s 3 (.mv (.tmp 54)))])
     .ret))))))))), [.cn 2 7, .t 3]⟩
theorem c_holds_hold : (compF Go.Proofs.Tryz.prog 75).map linF = some ir_holds_hold := by kernel_rfl
def ir_holds_failed : FIR := ⟨11, (.seq (.reg [.s 2 (.mv (.const (.bool false)))])
 (.seq (.reg [.s 3 (.mv (.tmp 0)),
  .s 4 (.call 32 [(.tmp 3)]),
  .s 5 (.bin .eql (.tmp 4) (.const (.int .i64 0))),
  .s 6 (.mv (.tmp 5)),
  .g 7 6 true (.mv (.tmp 0)),
  .g 8 6 true (.call 36 [(.tmp 7)]),
  .g 9 6 true (.bin .neq (.tmp 8) (.const (.int .i64 0))),
  .s 10 (.pick (.tmp 6) (.tmp 9) (.const (.bool false))),
  .s 2 (.mv (.tmp 10))])
 .ret)), [.t 2]⟩
theorem c_holds_failed : (compF Go.Proofs.Tryz.prog 76).map linF = some ir_holds_failed := by kernel_rfl
def ir_holds_Read : FIR := ⟨50, (.seq (.reg [.s 2 (.mv (.const (.slice none 0 0))),
 .s 3 (.mv (.const (.bool false)))])
 (.seq (.reg [.s 4 (.mv (.const (.slice none 0 0)))])
 (.seq (.reg [.s 9 (.mv (.tmp 0)),
  .s 10 (.call 74 [(.tmp 9), (.const (.int .i64 60))]),
  .s 5 (.mv (.tmp 10))])
  (.seq (.seq (.reg [.s 11 (.mv (.tmp 5)),
   .s 12 (.mv (.const (.int .i64 0)))])
   (.blk 0 (.loop (.seq (.reg [.s 13 (.bin .lss (.tmp 12) (.tmp 11))])
    (.seq (.cnd (.tmp 13) .skip
      (.exit 0))
     (.seq (.blk 1 (.seq (.reg [.s 14 (.mv (.tmp 12)),
       .s 6 (.mv (.tmp 14))])
      (.seq (.reg [.s 16 (.mv (.tmp 0)),
       .s 17 (.call 75 [(.tmp 16)]),
       .s 15 (.mv (.tmp 17)),
       .s 18 (.ext 0 (.tmp 15)),
       .s 19 (.ext 1 (.tmp 15)),
       .s 7 (.new 35 [(.string .empty), (.int .i64 0), (.int .i64 0), (.slice none 0 0), (.slice none 0 0), (.bool false), (.string .empty)]),
       .e (.st 7 (.tmp 7) (.tmp 18)),
       .s 8 (.mv (.tmp 19))])
       (.seq (.seq (.reg [.s 20 (.mv (.tmp 8)),
        .s 21 (.un .not (.tmp 20)),
        .s 22 (.mv (.tmp 21)),
        .g 23 22 false (.mv (.tmp 0)),
        .g 24 22 false (.call 76 [(.tmp 23)]),
        .s 25 (.pick (.tmp 22) (.const (.bool true)) (.tmp 24)),
        .s 26 (.mv (.tmp 25)),
        .g 27 26 false (.mv (.tmp 6)),
        .g 28 26 false (.bin .gtr (.tmp 27) (.const (.int .i64 0))),
        .g 29 26 false (.mv (.tmp 28)),
        .g 30 29 true (.mv (.tmp 4)),
        .g 31 29 true (.mv (.tmp 6)),
        .g 32 29 true (.bin .sub (.tmp 31) (.const (.int .i64 1))),
        .g 33 29 true (.ia 7 (.tmp 30) (.tmp 32)),
        .g 34 29 true (.fa 0 (.tmp 33)),
        .g 35 29 true (.ld (.tmp 34)),
        .g 36 29 true (.fa 0 (.tmp 7)),
        .g 37 29 true (.ld (.tmp 36)),
        .g 38 29 true (.bin .geq (.tmp 35) (.tmp 37)),
        .g 39 26 false (.pick (.tmp 29) (.tmp 38) (.const (.bool false))),
        .s 40 (.pick (.tmp 26) (.const (.bool true)) (.tmp 39))])
        (.cnd (.tmp 40) (.seq (.reg [.s 2 (.mv (.const (.slice none 0 0))),
          .s 3 (.mv (.const (.bool false)))])
         .ret)
         .skip))
       (.reg [.s 41 (.mv (.tmp 4)),
        .s 42 (.ldn 7 (.tmp 7)),
        .s 43 (.bsl 35 1 [(.string .empty), (.int .i64 0), (.int .i64 0), (.slice none 0 0), (.slice none 0 0), (.bool false), (.string .empty)] [(0, 7, (.tmp 42))]),
        .s 44 (.app 35 7 104 [(.string .empty), (.int .i64 0), (.int .i64 0), (.slice none 0 0), (.slice none 0 0), (.bool false), (.string .empty)] (.tmp 41) (.tmp 43)),
        .s 4 (.mv (.tmp 44))])))))
     (.reg [.s 45 (.bin .add (.tmp 12) (.const (.int .i64 1))),
      .s 12 (.mv (.tmp 45))])))))))
  (.seq (.reg [.s 46 (.mv (.tmp 4)),
   .s 47 (.mv (.tmp 0)),
   .s 48 (.call 76 [(.tmp 47)]),
   .s 49 (.un .not (.tmp 48)),
   .s 2 (.mv (.tmp 46)),
   .s 3 (.mv (.tmp 49))])
   .ret))))), [.t 2, .t 3]⟩
theorem c_holds_Read : (compF Go.Proofs.Tryz.prog 29).map linF = some ir_holds_Read := by kernel_rfl
end Go.WK
