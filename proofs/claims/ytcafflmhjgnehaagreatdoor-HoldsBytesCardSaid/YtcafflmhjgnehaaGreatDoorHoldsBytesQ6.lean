/-
  HoldsBytes: for every list of holds and every bytes in memory the function returns true, does not panic and leaves what was there; its condition is the one of its row. Part 7 of 14.
-/
import Derived.Test.YtcafflmhjgnehaaGreatDoorHoldsBytesQ2
import Derived.Test.YtcafflmhjgnehaaGreatDoorProg
import Derived.KernelRfl
import Derived.Test.YtcafflmhjgnehaaGreatDoorHoldsBytesQ5
set_option linter.unusedSimpArgs false
set_option linter.unusedVariables false
set_option linter.defProp false
set_option maxRecDepth 100000
/-
 The texts in the small language of some loaded functions, each held against the loaded one by the kernel.
-/
namespace Go.WK
open Go
def ir_watershedref02_Number : FIR := ⟨36, (.seq (.reg [.s 2 (.mv (.const (.slice none 0 0))),
 .s 3 (.mv (.const (.bool false)))])
 (.seq (.seq (.reg [.s 5 (.mv (.tmp 0)),
  .s 6 (.bin .lss (.tmp 5) (.const (.int .i64 0))),
  .s 7 (.mv (.tmp 6)),
  .g 8 7 false (.mv (.tmp 0)),
  .g 9 7 false (.bin .gtr (.tmp 8) (.const (.int .i64 4611686018427387903))),
  .s 10 (.pick (.tmp 7) (.const (.bool true)) (.tmp 9))])
  (.cnd (.tmp 10) (.seq (.reg [.s 2 (.mv (.const (.slice none 0 0))),
    .s 3 (.mv (.const (.bool false)))])
   .ret)
   .skip))
 (.seq (.reg [.s 11 (.mv (.tmp 0)),
  .s 12 (.bin .and (.tmp 11) (.const (.int .i64 127))),
  .s 13 (.cvi .u8 (.tmp 12)),
  .s 14 (.bsl 5 1 [(.int .u8 0)] [(0, 1, (.tmp 13))]),
  .s 4 (.mv (.tmp 14))])
  (.seq (.reg [.s 15 (.mv (.tmp 0)),
   .s 16 (.bin .shr (.tmp 15) (.const (.int .u64 7))),
   .s 0 (.mv (.tmp 16))])
  (.seq (.blk 0 (.loop (.seq (.seq (.reg [.s 17 (.mv (.tmp 0)),
     .s 18 (.bin .gtr (.tmp 17) (.const (.int .i64 0)))])
     (.cnd (.tmp 18) .skip
      (.exit 0)))
    (.blk 1 (.seq (.reg [.s 19 (.mv (.tmp 4)),
      .s 20 (.mv (.tmp 4)),
      .s 21 (.len (.tmp 20)),
      .s 22 (.bin .sub (.tmp 21) (.const (.int .i64 1))),
      .s 23 (.ia 1 (.tmp 19) (.tmp 22)),
      .s 24 (.ld (.tmp 23)),
      .s 25 (.bin .or (.tmp 24) (.const (.int .u8 128))),
      .s 26 (.ia 1 (.tmp 19) (.tmp 22)),
      .e (.st 1 (.tmp 26) (.tmp 25))])
     (.seq (.reg [.s 27 (.mv (.tmp 4)),
      .s 28 (.mv (.tmp 0)),
      .s 29 (.bin .and (.tmp 28) (.const (.int .i64 127))),
      .s 30 (.cvi .u8 (.tmp 29)),
      .s 31 (.bsl 5 1 [(.int .u8 0)] [(0, 1, (.tmp 30))]),
      .s 32 (.app 5 1 1 [(.int .u8 0)] (.tmp 27) (.tmp 31)),
      .s 4 (.mv (.tmp 32))])
      (.reg [.s 33 (.mv (.tmp 0)),
      .s 34 (.bin .shr (.tmp 33) (.const (.int .u64 7))),
      .s 0 (.mv (.tmp 34))])))))))
   (.seq (.reg [.s 35 (.mv (.tmp 4)),
    .s 2 (.mv (.tmp 35)),
    .s 3 (.mv (.const (.bool true)))])
   .ret)))))), [.t 2, .t 3]⟩
theorem c_watershedref02_Number : (compF Go.Proofs.Tryz.prog 121).map linF = some ir_watershedref02_Number := by kernel_rfl
def ir_watershedref02_Flag : FIR := ⟨6, (.seq (.reg [.s 2 (.mv (.const (.slice none 0 0)))])
 (.seq (.seq (.reg [.s 3 (.mv (.tmp 0))])
  (.cnd (.tmp 3) (.seq (.reg [.s 4 (.bsl 5 1 [(.int .u8 0)] [(0, 1, (.const (.int .u8 1)))]),
    .s 2 (.mv (.tmp 4))])
   .ret)
   .skip))
 (.seq (.reg [.s 5 (.bsl 5 1 [(.int .u8 0)] [(0, 1, (.const (.int .u8 0)))]),
  .s 2 (.mv (.tmp 5))])
  .ret))), [.t 2]⟩
theorem c_watershedref02_Flag : (compF Go.Proofs.Tryz.prog 122).map linF = some ir_watershedref02_Flag := by kernel_rfl
def ir_watershedref02_Row : FIR := ⟨14, (.seq (.reg [.s 2 (.mv (.const (.slice none 0 0)))])
 (.seq (.reg [.s 6 (.mv (.tmp 0)),
  .s 7 (.len (.tmp 6)),
  .s 8 (.call 121 [(.tmp 7)]),
  .s 5 (.mv (.tmp 8)),
  .s 9 (.ext 0 (.tmp 5)),
  .s 10 (.ext 1 (.tmp 5)),
  .s 3 (.mv (.tmp 9)),
  .s 4 (.mv (.tmp 10))])
 (.seq (.reg [.s 11 (.mv (.tmp 3)),
  .s 12 (.mv (.tmp 0)),
  .s 13 (.app 5 1 1 [(.int .u8 0)] (.tmp 11) (.tmp 12)),
  .s 2 (.mv (.tmp 13))])
  .ret))), [.t 2]⟩
theorem c_watershedref02_Row : (compF Go.Proofs.Tryz.prog 123).map linF = some ir_watershedref02_Row := by kernel_rfl
def ir_watershedref02_Write : FIR := ⟨77, (.seq (.reg [.s 8 (.mv (.const (.slice none 0 0))),
 .s 9 (.mv (.const (.int .i64 0)))])
 (.seq (.reg [.s 10 (.mv (.const (.slice none 0 0)))])
 (.seq (.seq (.reg [.s 11 (.mv (.const (.int .i64 0)))])
  (.blk 0 (.loop (.seq (.seq (.reg [.s 17 (.mv (.tmp 11)),
     .s 18 (.mv (.tmp 0)),
     .s 19 (.len (.tmp 18)),
     .s 20 (.bin .lss (.tmp 17) (.tmp 19))])
    (.cnd (.tmp 20) .skip
     (.exit 0)))
    (.seq (.blk 1 (.seq (.reg [.s 24 (.mv (.tmp 0)),
      .s 25 (.mv (.tmp 11)),
      .s 26 (.ia 1 (.tmp 24) (.tmp 25)),
      .s 27 (.ld (.tmp 26)),
      .s 28 (.call 121 [(.tmp 27)]),
      .s 23 (.mv (.tmp 28)),
      .s 29 (.ext 0 (.tmp 23)),
      .s 30 (.ext 1 (.tmp 23)),
      .s 12 (.mv (.tmp 29)),
      .s 13 (.mv (.tmp 30))])
     (.seq (.seq (.reg [.s 31 (.mv (.tmp 13)),
       .s 32 (.un .not (.tmp 31))])
      (.cnd (.tmp 32) (.seq (.reg [.s 8 (.mv (.const (.slice none 0 0))),
        .s 9 (.mv (.const (.int .i64 2)))])
        .ret)
       .skip))
      (.reg [.s 33 (.mv (.tmp 10)),
      .s 34 (.mv (.tmp 12)),
      .s 35 (.app 5 1 1 [(.int .u8 0)] (.tmp 33) (.tmp 34)),
      .s 10 (.mv (.tmp 35))]))))
    (.reg [.s 21 (.mv (.tmp 11)),
     .s 22 (.bin .add (.tmp 21) (.const (.int .i64 1))),
     .s 11 (.mv (.tmp 22))]))))))
  (.seq (.seq (.reg [.s 14 (.mv (.const (.int .i64 0)))])
   (.blk 2 (.loop (.seq (.seq (.reg [.s 36 (.mv (.tmp 14)),
     .s 37 (.mv (.tmp 1)),
     .s 38 (.len (.tmp 37)),
     .s 39 (.bin .lss (.tmp 36) (.tmp 38))])
     (.cnd (.tmp 39) .skip
      (.exit 2)))
    (.seq (.blk 3 (.reg [.s 42 (.mv (.tmp 10)),
      .s 43 (.mv (.tmp 1)),
      .s 44 (.mv (.tmp 14)),
      .s 45 (.ia 1 (.tmp 43) (.tmp 44)),
      .s 46 (.ld (.tmp 45)),
      .s 47 (.call 122 [(.tmp 46)]),
      .s 48 (.app 5 1 1 [(.int .u8 0)] (.tmp 42) (.tmp 47)),
      .s 10 (.mv (.tmp 48))]))
     (.reg [.s 40 (.mv (.tmp 14)),
     .s 41 (.bin .add (.tmp 40) (.const (.int .i64 1))),
     .s 14 (.mv (.tmp 41))]))))))
  (.seq (.seq (.reg [.s 15 (.mv (.const (.int .i64 0)))])
   (.blk 4 (.loop (.seq (.seq (.reg [.s 49 (.mv (.tmp 15)),
      .s 50 (.mv (.tmp 2)),
      .s 51 (.len (.tmp 50)),
      .s 52 (.bin .lss (.tmp 49) (.tmp 51))])
     (.cnd (.tmp 52) .skip
      (.exit 4)))
     (.seq (.blk 5 (.reg [.s 55 (.mv (.tmp 10)),
      .s 56 (.mv (.tmp 2)),
      .s 57 (.mv (.tmp 15)),
      .s 58 (.ia 1 (.tmp 56) (.tmp 57)),
      .s 59 (.ld (.tmp 58)),
      .s 60 (.csb 5 (.tmp 59)),
      .s 61 (.call 123 [(.tmp 60)]),
      .s 62 (.app 5 1 1 [(.int .u8 0)] (.tmp 55) (.tmp 61)),
      .s 10 (.mv (.tmp 62))]))
     (.reg [.s 53 (.mv (.tmp 15)),
      .s 54 (.bin .add (.tmp 53) (.const (.int .i64 1))),
      .s 15 (.mv (.tmp 54))]))))))
   (.seq (.seq (.reg [.s 16 (.mv (.const (.int .i64 0)))])
    (.blk 6 (.loop (.seq (.seq (.reg [.s 63 (.mv (.tmp 16)),
      .s 64 (.mv (.tmp 3)),
      .s 65 (.len (.tmp 64)),
      .s 66 (.bin .lss (.tmp 63) (.tmp 65))])
      (.cnd (.tmp 66) .skip
       (.exit 6)))
     (.seq (.blk 7 (.reg [.s 69 (.mv (.tmp 10)),
       .s 70 (.mv (.tmp 3)),
       .s 71 (.mv (.tmp 16)),
       .s 72 (.ia 1 (.tmp 70) (.tmp 71)),
       .s 73 (.ld (.tmp 72)),
       .s 74 (.call 123 [(.tmp 73)]),
       .s 75 (.app 5 1 1 [(.int .u8 0)] (.tmp 69) (.tmp 74)),
       .s 10 (.mv (.tmp 75))]))
      (.reg [.s 67 (.mv (.tmp 16)),
      .s 68 (.bin .add (.tmp 67) (.const (.int .i64 1))),
      .s 16 (.mv (.tmp 68))]))))))
   (.seq (.reg [.s 76 (.mv (.tmp 10)),
    .s 8 (.mv (.tmp 76)),
    .s 9 (.mv (.const (.int .i64 0)))])
    .ret))))))), [.t 8, .t 9]⟩
theorem c_watershedref02_Write : (compF Go.Proofs.Tryz.prog 68).map linF = some ir_watershedref02_Write := by kernel_rfl
def ir_watershedref02_Get : FIR := ⟨53, (.seq (.reg [.s 2 (.mv (.const (.int .i64 0))),
 .s 3 (.mv (.const (.int .i64 0)))])
 (.seq (.reg [.s 4 (.mv (.const (.int .i64 0)))])
 (.seq (.seq (.reg [.s 5 (.mv (.const (.int .i64 0)))])
  (.blk 0 (.loop (.seq (.seq (.reg [.s 6 (.mv (.tmp 5)),
     .s 7 (.mv (.tmp 0)),
     .s 8 (.len (.tmp 7)),
     .s 9 (.bin .lss (.tmp 6) (.tmp 8)),
     .s 10 (.mv (.tmp 9)),
     .g 11 10 true (.mv (.tmp 5)),
     .g 12 10 true (.bin .lss (.tmp 11) (.const (.int .i64 9))),
     .s 13 (.pick (.tmp 10) (.tmp 12) (.const (.bool false)))])
    (.cnd (.tmp 13) .skip
     (.exit 0)))
    (.seq (.blk 1 (.seq (.reg [.s 16 (.mv (.tmp 4)),
      .s 17 (.mv (.tmp 0)),
      .s 18 (.mv (.tmp 5)),
      .s 19 (.ia 1 (.tmp 17) (.tmp 18)),
      .s 20 (.ld (.tmp 19)),
      .s 21 (.bin .and (.tmp 20) (.const (.int .u8 127))),
      .s 22 (.cvi .i64 (.tmp 21)),
      .s 23 (.mv (.tmp 5)),
      .s 24 (.bin .mul (.const (.int .i64 7)) (.tmp 23)),
      .s 25 (.cvi .u64 (.tmp 24)),
      .s 26 (.bin .shl (.tmp 22) (.tmp 25)),
      .s 27 (.bin .or (.tmp 16) (.tmp 26)),
      .s 4 (.mv (.tmp 27))])
     (.seq (.reg [.s 28 (.mv (.tmp 0)),
      .s 29 (.mv (.tmp 5)),
      .s 30 (.ia 1 (.tmp 28) (.tmp 29)),
      .s 31 (.ld (.tmp 30)),
      .s 32 (.bin .lss (.tmp 31) (.const (.int .u8 128)))])
      (.cnd (.tmp 32) (.seq (.seq (.reg [.s 33 (.mv (.tmp 5)),
        .s 34 (.bin .gtr (.tmp 33) (.const (.int .i64 0))),
        .s 35 (.mv (.tmp 34)),
        .g 36 35 true (.mv (.tmp 0)),
        .g 37 35 true (.mv (.tmp 5)),
        .g 38 35 true (.ia 1 (.tmp 36) (.tmp 37)),
        .g 39 35 true (.ld (.tmp 38)),
        .g 40 35 true (.bin .eql (.tmp 39) (.const (.int .u8 0))),
        .s 41 (.pick (.tmp 35) (.tmp 40) (.const (.bool false))),
        .s 42 (.mv (.tmp 41)),
        .g 43 42 false (.mv (.tmp 4)),
        .g 44 42 false (.bin .gtr (.tmp 43) (.const (.int .i64 4611686018427387903))),
        .s 45 (.pick (.tmp 42) (.const (.bool true)) (.tmp 44)),
        .s 46 (.mv (.tmp 45)),
        .g 47 46 false (.mv (.tmp 4)),
        .g 48 46 false (.bin .lss (.tmp 47) (.const (.int .i64 0))),
        .s 49 (.pick (.tmp 46) (.const (.bool true)) (.tmp 48))])
        (.cnd (.tmp 49) (.seq (.reg [.s 2 (.mv (.const (.int .i64 0))),
          .s 3 (.mv (.const (.int .i64 0)))])
         .ret)
         .skip))
       (.seq (.reg [.s 50 (.mv (.tmp 4)),
        .s 51 (.mv (.tmp 5)),
        .s 52 (.bin .add (.tmp 51) (.const (.int .i64 1))),
        .s 2 (.mv (.tmp 50)),
        .s 3 (.mv (.tmp 52))])
        .ret))
       .skip))))
    (.reg [.s 14 (.mv (.tmp 5)),
     .s 15 (.bin .add (.tmp 14) (.const (.int .i64 1))),
     .s 5 (.mv (.tmp 15))]))))))
  (.seq (.reg [.s 2 (.mv (.const (.int .i64 0))),
   .s 3 (.mv (.const (.int .i64 0)))])
  .ret)))), [.t 2, .t 3]⟩
theorem c_watershedref02_Get : (compF Go.Proofs.Tryz.prog 138).map linF = some ir_watershedref02_Get := by kernel_rfl
def ir_watershedref02_Reader_fail : FIR := ⟨8, (.seq (.reg [.s 2 (.mv (.tmp 0)),
 .s 3 (.nck (.tmp 2)),
 .s 4 (.fa 1 (.tmp 3)),
 .e (.st 1 (.tmp 4) (.const (.bool true)))])
 (.reg [.s 5 (.mv (.tmp 0)),
 .s 6 (.nck (.tmp 5)),
 .s 7 (.fa 0 (.tmp 6)),
 .e (.st 1 (.tmp 7) (.const (.slice none 0 0)))])), []⟩
theorem c_watershedref02_Reader_fail : (compF Go.Proofs.Tryz.prog 139).map linF = some ir_watershedref02_Reader_fail := by kernel_rfl
def ir_watershedref02_Reader_Number : FIR := ⟨38, (.seq (.reg [.s 4 (.mv (.const (.int .i64 0)))])
 (.seq (.seq (.reg [.s 7 (.mv (.tmp 0)),
  .s 8 (.nck (.tmp 7)),
  .s 9 (.fa 1 (.tmp 8)),
  .s 10 (.ld (.tmp 9))])
  (.cnd (.tmp 10) (.seq (.reg [.s 4 (.mv (.const (.int .i64 0)))])
   .ret)
   .skip))
 (.seq (.reg [.s 12 (.mv (.tmp 0)),
  .s 13 (.nck (.tmp 12)),
  .s 14 (.fa 0 (.tmp 13)),
  .s 15 (.ld (.tmp 14)),
  .s 16 (.call 138 [(.tmp 15)]),
  .s 11 (.mv (.tmp 16)),
  .s 17 (.ext 0 (.tmp 11)),
  .s 18 (.ext 1 (.tmp 11)),
  .s 5 (.mv (.tmp 17)),
  .s 6 (.mv (.tmp 18))])
  (.seq (.seq (.reg [.s 19 (.mv (.tmp 6)),
   .s 20 (.bin .eql (.tmp 19) (.const (.int .i64 0))),
   .s 21 (.mv (.tmp 20)),
   .g 22 21 false (.mv (.tmp 5)),
   .g 23 21 false (.mv (.tmp 1)),
   .g 24 21 false (.bin .gtr (.tmp 22) (.tmp 23)),
   .s 25 (.pick (.tmp 21) (.const (.bool true)) (.tmp 24))])
   (.cnd (.tmp 25) (.seq (.reg [.s 26 (.mv (.tmp 0)),
     .s 27 (.call 139 [(.tmp 26)])])
    (.seq (.reg [.s 4 (.mv (.const (.int .i64 0)))])
     .ret))
    .skip))
  (.seq (.reg [.s 28 (.mv (.tmp 0)),
   .s 29 (.mv (.tmp 0)),
   .s 30 (.nck (.tmp 29)),
   .s 31 (.fa 0 (.tmp 30)),
   .s 32 (.ld (.tmp 31)),
   .s 33 (.mv (.tmp 6)),
   .s 34 (.sl 1 (.tmp 32) (some (.tmp 33)) none none),
   .s 35 (.nck (.tmp 28)),
   .s 36 (.fa 0 (.tmp 35)),
   .e (.st 1 (.tmp 36) (.tmp 34))])
   (.seq (.reg [.s 37 (.mv (.tmp 5)),
    .s 4 (.mv (.tmp 37))])
   .ret)))))), [.t 4]⟩
theorem c_watershedref02_Reader_Number : (compF Go.Proofs.Tryz.prog 77).map linF = some ir_watershedref02_Reader_Number := by kernel_rfl
def ir_watershedref02_Reader_Flag : FIR := ⟨41, (.seq (.reg [.s 2 (.mv (.const (.bool false)))])
 (.seq (.seq (.reg [.s 4 (.mv (.tmp 0)),
  .s 5 (.nck (.tmp 4)),
  .s 6 (.fa 1 (.tmp 5)),
  .s 7 (.ld (.tmp 6))])
  (.cnd (.tmp 7) (.seq (.reg [.s 2 (.mv (.const (.bool false)))])
   .ret)
   .skip))
 (.seq (.seq (.reg [.s 8 (.mv (.tmp 0)),
   .s 9 (.nck (.tmp 8)),
   .s 10 (.fa 0 (.tmp 9)),
   .s 11 (.ld (.tmp 10)),
   .s 12 (.len (.tmp 11)),
   .s 13 (.bin .eql (.tmp 12) (.const (.int .i64 0))),
   .s 14 (.mv (.tmp 13)),
   .g 15 14 false (.mv (.tmp 0)),
   .g 16 14 false (.nck (.tmp 15)),
   .g 17 14 false (.fa 0 (.tmp 16)),
   .g 18 14 false (.ld (.tmp 17)),
   .g 19 14 false (.ia 1 (.tmp 18) (.const (.int .i64 0))),
   .g 20 14 false (.ld (.tmp 19)),
   .g 21 14 false (.bin .gtr (.tmp 20) (.const (.int .u8 1))),
   .s 22 (.pick (.tmp 14) (.const (.bool true)) (.tmp 21))])
  (.cnd (.tmp 22) (.seq (.reg [.s 23 (.mv (.tmp 0)),
    .s 24 (.call 139 [(.tmp 23)])])
    (.seq (.reg [.s 2 (.mv (.const (.bool false)))])
    .ret))
   .skip))
  (.seq (.reg [.s 25 (.mv (.tmp 0)),
   .s 26 (.nck (.tmp 25)),
   .s 27 (.fa 0 (.tmp 26)),
   .s 28 (.ld (.tmp 27)),
   .s 29 (.ia 1 (.tmp 28) (.const (.int .i64 0))),
   .s 30 (.ld (.tmp 29)),
   .s 31 (.bin .eql (.tmp 30) (.const (.int .u8 1))),
   .s 3 (.mv (.tmp 31))])
  (.seq (.reg [.s 32 (.mv (.tmp 0)),
   .s 33 (.mv (.tmp 0)),
   .s 34 (.nck (.tmp 33)),
   .s 35 (.fa 0 (.tmp 34)),
   .s 36 (.ld (.tmp 35)),
   .s 37 (.sl 1 (.tmp 36) (some (.const (.int .i64 1))) none none),
   .s 38 (.nck (.tmp 32)),
   .s 39 (.fa 0 (.tmp 38)),
   .e (.st 1 (.tmp 39) (.tmp 37))])
   (.seq (.reg [.s 40 (.mv (.tmp 3)),
    .s 2 (.mv (.tmp 40))])
   .ret)))))), [.t 2]⟩
theorem c_watershedref02_Reader_Flag : (compF Go.Proofs.Tryz.prog 141).map linF = some ir_watershedref02_Reader_Flag := by kernel_rfl
def ir_watershedref02_Reader_Row : FIR := ⟨41, (.seq (.reg [.s 4 (.mv (.const (.slice none 0 0)))])
 (.seq (.reg [.s 7 (.mv (.tmp 0)),
  .s 8 (.mv (.tmp 1)),
  .s 9 (.call 77 [(.tmp 7), (.tmp 8)]),
  .s 5 (.mv (.tmp 9))])
 (.seq (.seq (.reg [.s 10 (.mv (.tmp 0)),
   .s 11 (.nck (.tmp 10)),
   .s 12 (.fa 1 (.tmp 11)),
   .s 13 (.ld (.tmp 12))])
  (.cnd (.tmp 13) (.seq (.reg [.s 4 (.mv (.const (.slice none 0 0)))])
    .ret)
   .skip))
  (.seq (.seq (.reg [.s 14 (.mv (.tmp 5)),
   .s 15 (.mv (.tmp 0)),
   .s 16 (.nck (.tmp 15)),
   .s 17 (.fa 0 (.tmp 16)),
   .s 18 (.ld (.tmp 17)),
   .s 19 (.len (.tmp 18)),
   .s 20 (.bin .gtr (.tmp 14) (.tmp 19))])
   (.cnd (.tmp 20) (.seq (.reg [.s 21 (.mv (.tmp 0)),
     .s 22 (.call 139 [(.tmp 21)])])
    (.seq (.reg [.s 4 (.mv (.const (.slice none 0 0)))])
     .ret))
    .skip))
  (.seq (.reg [.s 23 (.bsl 5 0 [] []),
   .s 24 (.mv (.tmp 0)),
   .s 25 (.nck (.tmp 24)),
   .s 26 (.fa 0 (.tmp 25)),
   .s 27 (.ld (.tmp 26)),
   .s 28 (.mv (.tmp 5)),
   .s 29 (.sl 1 (.tmp 27) none (some (.tmp 28)) none),
   .s 30 (.app 5 1 1 [(.int .u8 0)] (.tmp 23) (.tmp 29)),
   .s 6 (.mv (.tmp 30))])
   (.seq (.reg [.s 31 (.mv (.tmp 0)),
    .s 32 (.mv (.tmp 0)),
    .s 33 (.nck (.tmp 32)),
    .s 34 (.fa 0 (.tmp 33)),
    .s 35 (.ld (.tmp 34)),
    .s 36 (.mv (.tmp 5)),
    .s 37 (.sl 1 (.tmp 35) (some (.tmp 36)) none none),
    .s 38 (.nck (.tmp 31)),
    .s 39 (.fa 0 (.tmp 38)),
    .e (.st 1 (.tmp 39) (.tmp 37))])
   (.seq (.reg [.s 40 (.mv (.tmp 6)),
    .s 4 (.mv (.tmp 40))])
    .ret))))))), [.t 4]⟩
theorem c_watershedref02_Reader_Row : (compF Go.Proofs.Tryz.prog 140).map linF = some ir_watershedref02_Reader_Row := by kernel_rfl
end Go.WK
/-
 HoldsOf and ActsOf: what they count.
-/
namespace Go.WK
open Go Go.Proofs

def acN (a : Ac) : Nat := 1 + a.key.size / 8 + a.value.size / 8
def acsN (l : List Ac) : Nat := (l.map acN).sum
theorem take_sum {α : Type} (f : α → Nat) (l : List α) (i : Nat) (hi : i < l.length) : ((l.take (i + 1)).map f).sum = ((l.take i).map f).sum + f l[i] := by
 rw [List.take_add_one, List.getElem?_eq_getElem hi, List.map_append, List.sum_append]
 simp only [Option.toList_some, List.map_cons, List.map_nil, List.sum_cons, List.sum_nil, Nat.add_zero]
theorem tdiv8 (n : Nat) : ((n : Int).tdiv 8) = ((n / 8 : Nat) : Int) := by
 rw [Int.tdiv_eq_ediv_of_nonneg (by omega)]; rfl
theorem ActsOfN_cl {S : Nat → Prop} {H : Hp} {v : Value} {l : List Ac} (m : Nat) (hm : m ≤ 1099511627776) (hv : AcSl S H v l) : Cl Tryz.prog 47 [v, .int .i64 m] H fun r H' => H' = H ∧ ∃ n : Nat, r = .int .i64 n ∧ n ≤ 70368744177664 ∧ (n ≤ m → n = acsN l) := by
 refine cl_of mixed c_watershedkit_ActsOf (Nat.le_of_ble_eq_true rfl) ?_
 simp only [fwp, ir_watershedkit_ActsOf, argF, Nat.reduceAdd]
 obtain ⟨a, c, rfl, hc, hl, hel⟩ := SlP.open hv
 clear hv
 refine w_reg fun K hK => ?_; simp (disch := omega) only [↓wD, wU, simprocAttr]; refine hK _ _ ?_; clear hK K
 refine w_reg fun K hK => ?_; simp (disch := omega) only [↓wD, wU, simprocAttr]; refine hK _ _ ?_; clear hK K
 refine w_seq ?_
 refine w_reg fun K hK => ?_; simp (disch := omega) only [↓wD, wU, simprocAttr]; refine hK _ _ ?_; clear hK K
 refine w_blk (w_loop (fun n f H' => H' = H ∧ f 0 = .slice a l.length c ∧ f 1 = .int .i64 m ∧ ∃ (i x : Nat), f 6 = .int .i64 i ∧ i ≤ l.length ∧ f 5 = .int .i64 x ∧ x ≤ 70368744177664 ∧ x = acsN (l.take i) ∧ n = l.length - i) _ ⟨rfl, rfl, rfl, 0, 0, rfl, Nat.zero_le _, rfl, by omega, rfl, rfl⟩ ?_)
 rintro n f H' ⟨rfl, f0, f1, i, x, f6, hi, f5, hxb, hxe, rfl⟩
 refine w_seq (w_seq ?_)
 by_cases hlt : i < l.length
 ·obtain ⟨b, o, rfl, hS, cs, hcs, rfl, hk, hn, hs1, hs2⟩ := hel i hlt
  obtain ⟨c0, c1, c2, c3⟩ := rdn4 hcs
  unfold Sz big at hs1 hs2
  have hsum := take_sum acN l i hlt
  by_cases hx : x ≤ m
  ·refine w_reg fun K hK => ?_; simp (disch := omega) only [↓wD, wU, simprocAttr, f0, f1, f5, f6, hlt, hx]; refine hK _ _ ?_; clear hK K
   refine wt ?_
   refine w_skip ?_
   (with_reducible repeat first | apply q_n | apply q_e | apply q_r | apply bq_n | apply bq_e | apply bq_r | apply bq_o rfl)
   refine w_seq (w_blk ?_)
   refine w_reg1 fun K hK => ?_; simp (disch := omega) only [↓wD, wU, simprocAttr, f0, f1, f5, f6, hlt, hx, c1, c2, tdiv8]; refine hK _ _ ?_; clear hK K
   (with_reducible repeat first | apply q_n | apply q_e | apply q_r | apply bq_n | apply bq_e | apply bq_r | apply bq_o rfl)
   refine w_reg1 fun K hK => ?_; simp (disch := omega) only [↓wD, wU, simprocAttr, f0, f1, f5, f6, hlt, hx, c1, c2]; refine hK _ _ ?_; clear hK K
   (with_reducible repeat first | apply q_n | apply q_e | apply q_r | apply bq_n | apply bq_e | apply bq_r | apply bq_o rfl)
   refine ⟨l.length - (i + 1), by omega, rfl, (by simp only [wL, Nat.reduceBEq, f0]), (by simp only [wL, Nat.reduceBEq, f1]), i + 1, x + acN l[i], (by simp only [wL, Nat.reduceBEq]), by omega, ?_, by unfold acN; omega, by unfold acsN at hxe ⊢; rw [hsum, hxe], rfl⟩
   simp only [wL, Nat.reduceBEq, acN]
   congr 1
   omega
  ·have hx' : ((x : Int) ≤ (m : Int)) = False := by simp; omega
   refine w_reg fun K hK => ?_; simp (disch := omega) only [↓wD, wU, simprocAttr, f0, f1, f5, f6, hlt, hx, hx']; refine hK _ _ ?_; clear hK K
   refine wf ?_
   refine w_exit ?_
   (with_reducible repeat first | apply q_n | apply q_e | apply q_r | apply bq_n | apply bq_e | apply bq_r | apply bq_o rfl)
   refine w_reg fun K hK => ?_; simp (disch := omega) only [↓wD, wU, simprocAttr, f5]; refine hK _ _ ?_; clear hK K
   refine w_ret ?_; (with_reducible repeat first | apply q_n | apply q_e | apply q_r | apply bq_n | apply bq_e | apply bq_r | apply bq_o rfl); refine ret1 (by (try simp only [wL, Nat.reduceBEq]); rfl) ?_
   exact ⟨rfl, x, rfl, hxb, fun h => absurd h hx⟩
 ·refine w_reg fun K hK => ?_; simp (disch := omega) only [↓wD, wU, simprocAttr, f0, f1, f5, f6, hlt]; refine hK _ _ ?_; clear hK K
  refine wf ?_
  refine w_exit ?_
  (with_reducible repeat first | apply q_n | apply q_e | apply q_r | apply bq_n | apply bq_e | apply bq_r | apply bq_o rfl)
  refine w_reg fun K hK => ?_; simp (disch := omega) only [↓wD, wU, simprocAttr, f5]; refine hK _ _ ?_; clear hK K
  refine w_ret ?_; (with_reducible repeat first | apply q_n | apply q_e | apply q_r | apply bq_n | apply bq_e | apply bq_r | apply bq_o rfl); refine ret1 (by (try simp only [wL, Nat.reduceBEq]); rfl) ?_
  refine ⟨rfl, x, rfl, hxb, fun _ => ?_⟩
  rw [hxe, List.take_of_length_le (by omega)]
def rdN (r : Rd) : Nat := 1 + r.key.size / 8 + r.value.size / 8
def hdN (h : Hd) : Nat := 1 + h.key.size / 8 + h.value.size / 8 + acsN h.acts + (h.reads.map rdN).sum
def hdsN (l : List Hd) : Nat := (l.map hdN).sum
set_option maxHeartbeats 4000000 in
theorem HoldsOfN_cl {S : Nat → Prop} {H : Hp} {v : Value} {l : List Hd} (m : Nat) (hm : m ≤ 1099511627776) (hv : HdSl S H v l) : Cl Tryz.prog 10 [v, .int .i64 m] H fun r H' => H' = H ∧ ∃ n : Nat, r = .int .i64 n ∧ (n ≤ m → n = hdsN l) := by
 refine cl_of mixed c_watershedkit_HoldsOf (Nat.le_of_ble_eq_true rfl) ?_
 simp only [fwp, ir_watershedkit_HoldsOf, argF, Nat.reduceAdd]
 obtain ⟨a, c, rfl, hc, hl, hel⟩ := SlP.open hv
 clear hv
 refine w_reg fun K hK => ?_; simp (disch := omega) only [↓wD, wU, simprocAttr]; refine hK _ _ ?_; clear hK K
 refine w_reg fun K hK => ?_; simp (disch := omega) only [↓wD, wU, simprocAttr]; refine hK _ _ ?_; clear hK K
 refine w_seq ?_
 refine w_seq ?_
 refine w_reg fun K hK => ?_; simp (disch := omega) only [↓wD, wU, simprocAttr]; refine hK _ _ ?_; clear hK K
 refine w_blk (w_loop (fun n f H' => H' = H ∧ f 0 = .slice a l.length c ∧ f 1 = .int .i64 m ∧ ∃ (i x : Nat), f 6 = .int .i64 i ∧ i ≤ l.length ∧ f 5 = .int .i64 x ∧ x ≤ 281474976710656 ∧ (x ≤ m → x = hdsN (l.take i)) ∧ n = l.length - i) _ ⟨rfl, rfl, rfl, 0, 0, rfl, Nat.zero_le _, rfl, by omega, fun _ => rfl, rfl⟩ ?_)
 rintro n f H' ⟨rfl, f0, f1, i, x, f6, hi, f5, hxb, hxe, rfl⟩
 refine w_seq (w_seq ?_)
 by_cases hlt : i < l.length
 ·obtain ⟨b, o, rfl, hS, cs, hcs, va, vr, rfl, ha, hr, hnm, hs1, hs2⟩ := hel i hlt
  obtain ⟨c0, c1, c2, c3, c4, c5, c6⟩ := rdn7 hcs
  unfold Sz big at hs1 hs2
  have hsum := take_sum hdN l i hlt
  by_cases hx : x ≤ m
  ·refine w_reg fun K hK => ?_; simp (disch := omega) only [↓wD, wU, simprocAttr, f0, f1, f5, f6, hlt, hx]; refine hK _ _ ?_; clear hK K
   refine wt ?_
   refine w_skip ?_
   (with_reducible repeat first | apply q_n | apply q_e | apply q_r | apply bq_n | apply bq_e | apply bq_r | apply bq_o rfl)
   refine w_seq (w_blk ?_)
   obtain ⟨ra, rc, rfl, hrc, hrl, hrel⟩ := SlP.open hr
   refine w_lin (fun _ => True) fun K hK => ?_
   simp (disch := omega) only [↓l_nil, ↓l_f, ↓l_t, ↓o_s, ↓o_e, ↓o_g, ↓o_ge, ↓k_ld, ↓k_ldn, isemS, ↓wD, wU, simprocAttr, f0, f1, f5, f6, hlt, hx, c0, c1, c2, c3, c4, c5, c6, tdiv8]
   refine w_call (ActsOfN_cl m hm ha) ?_
   rintro _ H1 ⟨rfl, n1, rfl, hn1, hn1e⟩
   simp (disch := omega) only [↓l_nil, ↓l_f, ↓l_t, ↓o_s, ↓o_e, ↓o_g, ↓o_ge, ↓k_ld, ↓k_ldn, isemS, ↓wD, wU, simprocAttr]
   refine ⟨⟨Nat.le_refl _, fun _ _ _ => rfl⟩, ?_⟩
   refine hK _ _ ?_
   clear hK K
   refine w_seq ?_
   refine w_reg fun K hK => ?_; simp (disch := omega) only [↓wD, wU, simprocAttr]; refine hK _ _ ?_; clear hK K
   refine w_blk (w_loop (fun n f H'' => H'' = H1 ∧ f 0 = .slice (some ⟨b, o, none⟩) l.length c ∧ f 1 = .int .i64 m ∧ f 6 = .int .i64 i ∧ ∃ (k x : Nat), f 7 = .int .i64 k ∧ k ≤ l[i].reads.length ∧ f 5 = .int .i64 x ∧ x ≤ 281474976710656 ∧ (x ≤ m → x = hdsN (l.take i) + (1 + l[i].key.size / 8 + l[i].value.size / 8 + acsN l[i].acts) + ((l[i].reads.take k).map rdN).sum) ∧ n = l[i].reads.length - k) _ ⟨rfl, (by simp only [wL, Nat.reduceBEq, f0]), (by simp only [wL, Nat.reduceBEq, f1]), (by simp only [wL, Nat.reduceBEq, f6]), 0, x + 1 + l[i].key.size / 8 + l[i].value.size / 8 + n1, rfl, Nat.zero_le _, ?_, by omega, fun h => ?_, rfl⟩ ?_)
   ·simp only [wL, Nat.reduceBEq]

   ·have := hxe (by omega)
    have := hn1e (by omega)
    simp only [List.take_zero, List.map_nil, List.sum_nil]
    omega
   clear hxe hxb hn1e hn1 f5
   rintro n f H'' ⟨rfl, f0, f1, f6, k, x, f7, hk, f5, hxb, hxe, rfl⟩
   refine w_seq (w_seq ?_)
   by_cases hkl : k < l[i].reads.length
   ·obtain ⟨b', o', rfl, hS', cs', hcs', rfl, hrd1, hrd2⟩ := hrel k hkl
    obtain ⟨d0, d1, d2⟩ := rdn3 hcs'
    unfold Sz big at hrd1 hrd2
    have hsum2 := take_sum rdN l[i].reads k hkl
    by_cases hx' : x ≤ m
    ·refine w_reg fun K hK => ?_; simp (disch := omega) only [↓wD, wU, simprocAttr, f0, f1, f5, f6, f7, hlt, hkl, hx', c4]; refine hK _ _ ?_; clear hK K
     refine wt ?_
     refine w_skip ?_
     (with_reducible repeat first | apply q_n | apply q_e | apply q_r | apply bq_n | apply bq_e | apply bq_r | apply bq_o rfl)
     refine w_seq (w_blk ?_)
     refine w_reg1 fun K hK => ?_; simp (disch := omega) only [↓wD, wU, simprocAttr, f0, f1, f5, f6, f7, hlt, hkl, hx', c0, c4, d0, d1, d2, tdiv8]; refine hK _ _ ?_; clear hK K
     (with_reducible repeat first | apply q_n | apply q_e | apply q_r | apply bq_n | apply bq_e | apply bq_r | apply bq_o rfl)
     refine w_reg1 fun K hK => ?_; simp (disch := omega) only [↓wD, wU, simprocAttr, f7]; refine hK _ _ ?_; clear hK K
     (with_reducible repeat first | apply q_n | apply q_e | apply q_r | apply bq_n | apply bq_e | apply bq_r | apply bq_o rfl)
     refine ⟨l[i].reads.length - (k + 1), by omega, rfl, (by simp only [wL, Nat.reduceBEq, f0]), (by simp only [wL, Nat.reduceBEq, f1]), (by simp only [wL, Nat.reduceBEq, f6]), k + 1, x + rdN l[i].reads[k], (by simp only [wL, Nat.reduceBEq]), by omega, ?_, by unfold rdN; omega, fun h => by rw [hsum2, hxe hx']; omega, rfl⟩
     simp only [wL, Nat.reduceBEq, rdN]
     congr 1
     omega
    ·have hx2 : ((x : Int) ≤ (m : Int)) = False := by simp; omega
     refine w_reg fun K hK => ?_; simp (disch := omega) only [↓wD, wU, simprocAttr, f0, f1, f5, f6, f7, hlt, hkl, hx', hx2, c4]; refine hK _ _ ?_; clear hK K
     refine wf ?_
     refine w_exit ?_
     (with_reducible repeat first | apply q_n | apply q_e | apply q_r | apply bq_n | apply bq_e | apply bq_r | apply bq_o rfl)
     refine w_reg1 fun K hK => ?_; simp (disch := omega) only [↓wD, wU, simprocAttr, f6]; refine hK _ _ ?_; clear hK K
     (with_reducible repeat first | apply q_n | apply q_e | apply q_r | apply bq_n | apply bq_e | apply bq_r | apply bq_o rfl)
     exact ⟨l.length - (i + 1), by omega, rfl, (by simp only [wL, Nat.reduceBEq, f0]), (by simp only [wL, Nat.reduceBEq, f1]), i + 1, x, (by simp only [wL, Nat.reduceBEq]), by omega, (by simp only [wL, Nat.reduceBEq, f5]), hxb, fun h => absurd h hx', rfl⟩
   ·refine w_reg fun K hK => ?_; simp (disch := omega) only [↓wD, wU, simprocAttr, f0, f1, f5, f6, f7, hlt, hkl, c4]; refine hK _ _ ?_; clear hK K
    refine wf ?_
    refine w_exit ?_
    (with_reducible repeat first | apply q_n | apply q_e | apply q_r | apply bq_n | apply bq_e | apply bq_r | apply bq_o rfl)
    refine w_reg1 fun K hK => ?_; simp (disch := omega) only [↓wD, wU, simprocAttr, f6]; refine hK _ _ ?_; clear hK K
    (with_reducible repeat first | apply q_n | apply q_e | apply q_r | apply bq_n | apply bq_e | apply bq_r | apply bq_o rfl)
    refine ⟨l.length - (i + 1), by omega, rfl, (by simp only [wL, Nat.reduceBEq, f0]), (by simp only [wL, Nat.reduceBEq, f1]), i + 1, x, (by simp only [wL, Nat.reduceBEq]), by omega, (by simp only [wL, Nat.reduceBEq, f5]), hxb, fun h => ?_, rfl⟩
    have h1 := hxe h
    rw [List.take_of_length_le (l := l[i].reads) (i := k) (by omega)] at h1
    have e1 : hdsN (l.take (i + 1)) = hdsN (l.take i) + hdN l[i] := hsum
    have e2 : hdN l[i] = 1 + l[i].key.size / 8 + l[i].value.size / 8 + acsN l[i].acts + (l[i].reads.map rdN).sum := rfl
    rw [e1, e2]
    omega
  ·have hx' : ((x : Int) ≤ (m : Int)) = False := by simp; omega
   refine w_reg fun K hK => ?_; simp (disch := omega) only [↓wD, wU, simprocAttr, f0, f1, f5, f6, hlt, hx, hx']; refine hK _ _ ?_; clear hK K
   refine wf ?_
   refine w_exit ?_
   (with_reducible repeat first | apply q_n | apply q_e | apply q_r | apply bq_n | apply bq_e | apply bq_r | apply bq_o rfl)
   refine w_reg fun K hK => ?_; simp (disch := omega) only [↓wD, wU, simprocAttr, f5]; refine hK _ _ ?_; clear hK K
   refine w_ret ?_; (with_reducible repeat first | apply q_n | apply q_e | apply q_r | apply bq_n | apply bq_e | apply bq_r | apply bq_o rfl); refine ret1 (by (try simp only [wL, Nat.reduceBEq]); rfl) ?_
   exact ⟨rfl, x, rfl, fun h => absurd h hx⟩
 ·refine w_reg fun K hK => ?_; simp (disch := omega) only [↓wD, wU, simprocAttr, f0, f1, f5, f6, hlt]; refine hK _ _ ?_; clear hK K
  refine wf ?_
  refine w_exit ?_
  (with_reducible repeat first | apply q_n | apply q_e | apply q_r | apply bq_n | apply bq_e | apply bq_r | apply bq_o rfl)
  refine w_reg fun K hK => ?_; simp (disch := omega) only [↓wD, wU, simprocAttr, f5]; refine hK _ _ ?_; clear hK K
  refine w_ret ?_; (with_reducible repeat first | apply q_n | apply q_e | apply q_r | apply bq_n | apply bq_e | apply bq_r | apply bq_o rfl); refine ret1 (by (try simp only [wL, Nat.reduceBEq]); rfl) ?_
  refine ⟨rfl, x, rfl, fun h => ?_⟩
  rw [hxe h, List.take_of_length_le (by omega)]
end Go.WK
/-
 The texts in the small language of some loaded functions, each held against the loaded one by the kernel.
-/
namespace Go.WK
open Go
def ir_watershedref14_Name : FIR := ⟨21, (.seq (.reg [.s 1 (.box 24 (.tmp 0)),
 .s 2 (.mv (.const (.bool false)))])
 (.seq (.reg [.s 3 (.fa 0 (.tmp 1)),
  .s 4 (.ld (.tmp 3)),
  .s 5 (.bin .geq (.tmp 4) (.const (.int .i64 1))),
  .s 6 (.mv (.tmp 5)),
  .g 7 6 true (.fa 0 (.tmp 1)),
  .g 8 6 true (.ld (.tmp 7)),
  .g 9 6 true (.bin .leq (.tmp 8) (.const (.int .i64 8))),
  .s 10 (.pick (.tmp 6) (.tmp 9) (.const (.bool false))),
  .s 11 (.mv (.tmp 10)),
  .g 12 11 true (.fa 1 (.tmp 1)),
  .g 13 11 true (.ld (.tmp 12)),
  .g 14 11 true (.bin .geq (.tmp 13) (.const (.int .i64 1))),
  .s 15 (.pick (.tmp 11) (.tmp 14) (.const (.bool false))),
  .s 16 (.mv (.tmp 15)),
  .g 17 16 true (.fa 1 (.tmp 1)),
  .g 18 16 true (.ld (.tmp 17)),
  .g 19 16 true (.bin .leq (.tmp 18) (.const (.int .i64 1073741824))),
  .s 20 (.pick (.tmp 16) (.tmp 19) (.const (.bool false))),
  .s 2 (.mv (.tmp 20))])
 .ret)), [.t 2]⟩
theorem c_watershedref14_Name : (compF Go.Proofs.Tryz.prog 129).map linF = some ir_watershedref14_Name := by kernel_rfl
def ir_watershedref14_value : FIR := ⟨42, (.seq (.reg [.s 2 (.mv (.const (.bool false)))])
 (.seq (.seq (.reg [.s 3 (.mv (.const (.int .i64 0)))])
  (.blk 0 (.loop (.seq (.seq (.reg [.s 4 (.mv (.tmp 3)),
    .s 5 (.mv (.tmp 0)),
    .s 6 (.slen (.tmp 5)),
    .s 7 (.bin .lss (.tmp 4) (.tmp 6))])
    (.cnd (.tmp 7) .skip
     (.exit 0)))
   (.seq (.blk 1 (.seq (.reg [.s 10 (.mv (.tmp 0)),
     .s 11 (.mv (.tmp 3)),
     .s 12 (.ixs (.tmp 10) (.tmp 11)),
     .s 13 (.bin .geq (.tmp 12) (.const (.int .u8 97))),
     .s 14 (.mv (.tmp 13)),
     .g 15 14 true (.mv (.tmp 0)),
     .g 16 14 true (.mv (.tmp 3)),
     .g 17 14 true (.ixs (.tmp 15) (.tmp 16)),
     .g 18 14 true (.bin .leq (.tmp 17) (.const (.int .u8 122))),
     .s 19 (.pick (.tmp 14) (.tmp 18) (.const (.bool false))),
     .s 20 (.mv (.tmp 19)),
     .g 21 20 false (.mv (.tmp 0)),
     .g 22 20 false (.mv (.tmp 3)),
     .g 23 20 false (.ixs (.tmp 21) (.tmp 22)),
     .g 24 20 false (.bin .geq (.tmp 23) (.const (.int .u8 48))),
     .g 25 20 false (.mv (.tmp 24)),
     .g 26 25 true (.mv (.tmp 0)),
     .g 27 25 true (.mv (.tmp 3)),
     .g 28 25 true (.ixs (.tmp 26) (.tmp 27)),
     .g 29 25 true (.bin .leq (.tmp 28) (.const (.int .u8 57))),
     .g 30 20 false (.pick (.tmp 25) (.tmp 29) (.const (.bool false))),
     .s 31 (.pick (.tmp 20) (.const (.bool true)) (.tmp 30)),
     .s 32 (.mv (.tmp 31)),
     .g 33 32 false (.mv (.tmp 0)),
     .g 34 32 false (.mv (.tmp 3)),
     .g 35 32 false (.ixs (.tmp 33) (.tmp 34)),
     .g 36 32 false (.bin .eql (.tmp 35) (.const (.int .u8 45))),
     .s 37 (.pick (.tmp 32) (.const (.bool true)) (.tmp 36)),
     .s 38 (.un .not (.tmp 37))])
     (.cnd (.tmp 38) (.seq (.reg [.s 2 (.mv (.const (.bool false)))])
      .ret)
      .skip)))
    (.reg [.s 8 (.mv (.tmp 3)),
    .s 9 (.bin .add (.tmp 8) (.const (.int .i64 1))),
    .s 3 (.mv (.tmp 9))]))))))
 (.seq (.reg [.s 39 (.mv (.tmp 0)),
  .s 40 (.slen (.tmp 39)),
  .s 41 (.bin .leq (.tmp 40) (.const (.int .i64 20))),
  .s 2 (.mv (.tmp 41))])
  .ret))), [.t 2]⟩
theorem c_watershedref14_value : (compF Go.Proofs.Tryz.prog 192).map linF = some ir_watershedref14_value := by kernel_rfl
def ir_watershedref14_one : FIR := ⟨55, (.seq (.reg [.s 1 (.box 98 (.tmp 0)),
 .s 2 (.mv (.const (.bool false)))])
 (.seq (.seq (.reg [.s 3 (.fa 0 (.tmp 1)),
  .s 4 (.ld (.tmp 3))])
  (.blk 0 (.seq (.reg [.s 6 (.bin .eql (.tmp 4) (.const (.int .u8 1))),
   .s 5 (.mv (.tmp 6))])
   (.cnd (.tmp 5) (.seq (.reg [.s 7 (.fa 1 (.tmp 1)),
     .s 8 (.ld (.tmp 7)),
     .s 9 (.call 191 [(.tmp 8)]),
     .s 10 (.mv (.tmp 9)),
     .g 11 10 true (.fa 2 (.tmp 1)),
     .g 12 10 true (.ld (.tmp 11)),
     .g 13 10 true (.bin .eql (.tmp 12) (.const (.string .empty))),
     .s 14 (.pick (.tmp 10) (.tmp 13) (.const (.bool false))),
     .s 15 (.mv (.tmp 14)),
     .g 16 15 true (.fa 3 (.tmp 1)),
     .g 17 15 true (.ld (.tmp 16)),
     .g 18 15 true (.bin .eql (.tmp 17) (.const (.int .i64 0))),
     .s 19 (.pick (.tmp 15) (.tmp 18) (.const (.bool false))),
     .s 2 (.mv (.tmp 19))])
    .ret)
    (.seq (.reg [.s 21 (.bin .eql (.tmp 4) (.const (.int .u8 2))),
     .s 20 (.mv (.tmp 21))])
    (.cnd (.tmp 20) (.seq (.reg [.s 22 (.fa 1 (.tmp 1)),
      .s 23 (.ld (.tmp 22)),
      .s 24 (.call 191 [(.tmp 23)]),
      .s 25 (.mv (.tmp 24)),
      .g 26 25 true (.fa 2 (.tmp 1)),
      .g 27 25 true (.ld (.tmp 26)),
      .g 28 25 true (.call 192 [(.tmp 27)]),
      .s 29 (.pick (.tmp 25) (.tmp 28) (.const (.bool false))),
      .s 30 (.mv (.tmp 29)),
      .g 31 30 true (.fa 3 (.tmp 1)),
      .g 32 30 true (.ld (.tmp 31)),
      .g 33 30 true (.bin .eql (.tmp 32) (.const (.int .i64 0))),
      .s 34 (.pick (.tmp 30) (.tmp 33) (.const (.bool false))),
      .s 2 (.mv (.tmp 34))])
      .ret)
     (.seq (.reg [.s 36 (.bin .eql (.tmp 4) (.const (.int .u8 3))),
      .s 35 (.mv (.tmp 36))])
      (.cnd (.tmp 35) (.seq (.reg [.s 37 (.fa 1 (.tmp 1)),
        .s 38 (.ld (.tmp 37)),
        .s 39 (.call 191 [(.tmp 38)]),
        .s 40 (.mv (.tmp 39)),
        .g 41 40 true (.fa 2 (.tmp 1)),
        .g 42 40 true (.ld (.tmp 41)),
        .g 43 40 true (.bin .eql (.tmp 42) (.const (.string .empty))),
        .s 44 (.pick (.tmp 40) (.tmp 43) (.const (.bool false))),
        .s 45 (.mv (.tmp 44)),
        .g 46 45 true (.fa 3 (.tmp 1)),
        .g 47 45 true (.ld (.tmp 46)),
        .g 48 45 true (.bin .geq (.tmp 47) (.const (.int .i64 (-1073741824)))),
        .s 49 (.pick (.tmp 45) (.tmp 48) (.const (.bool false))),
        .s 50 (.mv (.tmp 49)),
        .g 51 50 true (.fa 3 (.tmp 1)),
        .g 52 50 true (.ld (.tmp 51)),
        .g 53 50 true (.bin .leq (.tmp 52) (.const (.int .i64 1073741824))),
        .s 54 (.pick (.tmp 50) (.tmp 53) (.const (.bool false))),
        .s 2 (.mv (.tmp 54))])
       .ret)
       .skip))))))))
 (.seq (.reg [.s 2 (.mv (.const (.bool false)))])
  .ret))), [.t 2]⟩
theorem c_watershedref14_one : (compF Go.Proofs.Tryz.prog 161).map linF = some ir_watershedref14_one := by kernel_rfl
def ir_watershedref14_Right : FIR := ⟨24, (.seq (.reg [.s 2 (.mv (.const (.bool false)))])
 (.seq (.seq (.reg [.s 3 (.mv (.const (.int .i64 0)))])
  (.blk 0 (.loop (.seq (.seq (.reg [.s 4 (.mv (.tmp 3)),
    .s 5 (.mv (.tmp 0)),
    .s 6 (.len (.tmp 5)),
    .s 7 (.bin .lss (.tmp 4) (.tmp 6))])
    (.cnd (.tmp 7) .skip
     (.exit 0)))
   (.seq (.blk 1 (.seq (.reg [.s 10 (.mv (.tmp 0)),
     .s 11 (.mv (.tmp 3)),
     .s 12 (.ia 4 (.tmp 10) (.tmp 11)),
     .s 13 (.ldn 4 (.tmp 12)),
     .s 14 (.call 161 [(.tmp 13)]),
     .s 15 (.un .not (.tmp 14))])
     (.cnd (.tmp 15) (.seq (.reg [.s 2 (.mv (.const (.bool false)))])
      .ret)
      .skip)))
    (.reg [.s 8 (.mv (.tmp 3)),
    .s 9 (.bin .add (.tmp 8) (.const (.int .i64 1))),
    .s 3 (.mv (.tmp 9))]))))))
 (.seq (.reg [.s 16 (.mv (.tmp 0)),
  .s 17 (.len (.tmp 16)),
  .s 18 (.bin .geq (.tmp 17) (.const (.int .i64 1))),
  .s 19 (.mv (.tmp 18)),
  .g 20 19 true (.mv (.tmp 0)),
  .g 21 19 true (.len (.tmp 20)),
  .g 22 19 true (.bin .leq (.tmp 21) (.const (.int .i64 6))),
  .s 23 (.pick (.tmp 19) (.tmp 22) (.const (.bool false))),
  .s 2 (.mv (.tmp 23))])
  .ret))), [.t 2]⟩
theorem c_watershedref14_Right : (compF Go.Proofs.Tryz.prog 130).map linF = some ir_watershedref14_Right := by kernel_rfl
def ir_watershedref04_Key : FIR := ⟨41, (.seq (.reg [.s 2 (.mv (.const (.bool false)))])
 (.seq (.seq (.reg [.s 4 (.mv (.tmp 0)),
  .s 5 (.slen (.tmp 4)),
  .s 6 (.bin .lss (.tmp 5) (.const (.int .i64 1))),
  .s 7 (.mv (.tmp 6)),
  .g 8 7 false (.mv (.tmp 0)),
  .g 9 7 false (.slen (.tmp 8)),
  .g 10 7 false (.bin .gtr (.tmp 9) (.const (.int .i64 20))),
  .s 11 (.pick (.tmp 7) (.const (.bool true)) (.tmp 10))])
  (.cnd (.tmp 11) (.seq (.reg [.s 2 (.mv (.const (.bool false)))])
   .ret)
   .skip))
 (.seq (.seq (.reg [.s 3 (.mv (.const (.int .i64 0)))])
  (.blk 0 (.loop (.seq (.seq (.reg [.s 12 (.mv (.tmp 3)),
     .s 13 (.mv (.tmp 0)),
     .s 14 (.slen (.tmp 13)),
     .s 15 (.bin .lss (.tmp 12) (.tmp 14))])
    (.cnd (.tmp 15) .skip
     (.exit 0)))
    (.seq (.blk 1 (.seq (.reg [.s 18 (.mv (.tmp 0)),
      .s 19 (.mv (.tmp 3)),
      .s 20 (.ixs (.tmp 18) (.tmp 19)),
      .s 21 (.bin .geq (.tmp 20) (.const (.int .u8 97))),
      .s 22 (.mv (.tmp 21)),
      .g 23 22 true (.mv (.tmp 0)),
      .g 24 22 true (.mv (.tmp 3)),
      .g 25 22 true (.ixs (.tmp 23) (.tmp 24)),
      .g 26 22 true (.bin .leq (.tmp 25) (.const (.int .u8 122))),
      .s 27 (.pick (.tmp 22) (.tmp 26) (.const (.bool false))),
      .s 28 (.mv (.tmp 27)),
      .g 29 28 false (.mv (.tmp 0)),
      .g 30 28 false (.mv (.tmp 3)),
      .g 31 28 false (.ixs (.tmp 29) (.tmp 30)),
      .g 32 28 false (.bin .geq (.tmp 31) (.const (.int .u8 48))),
      .g 33 28 false (.mv (.tmp 32)),
      .g 34 33 true (.mv (.tmp 0)),
      .g 35 33 true (.mv (.tmp 3)),
      .g 36 33 true (.ixs (.tmp 34) (.tmp 35)),
      .g 37 33 true (.bin .leq (.tmp 36) (.const (.int .u8 57))),
      .g 38 28 false (.pick (.tmp 33) (.tmp 37) (.const (.bool false))),
      .s 39 (.pick (.tmp 28) (.const (.bool true)) (.tmp 38)),
      .s 40 (.un .not (.tmp 39))])
     (.cnd (.tmp 40) (.seq (.reg [.s 2 (.mv (.const (.bool false)))])
       .ret)
      .skip)))
    (.reg [.s 16 (.mv (.tmp 3)),
     .s 17 (.bin .add (.tmp 16) (.const (.int .i64 1))),
     .s 3 (.mv (.tmp 17))]))))))
  (.seq (.reg [.s 2 (.mv (.const (.bool true)))])
  .ret)))), [.t 2]⟩
theorem c_watershedref04_Key : (compF Go.Proofs.Tryz.prog 191).map linF = some ir_watershedref04_Key := by kernel_rfl
def ir_watershedref16_one : FIR := ⟨113, (.seq (.reg [.s 1 (.box 35 (.tmp 0)),
 .s 2 (.mv (.const (.bool false)))])
 (.seq (.seq (.reg [.s 8 (.fa 1 (.tmp 1)),
  .s 9 (.ldn 2 (.tmp 8)),
  .s 10 (.call 129 [(.tmp 9)]),
  .s 11 (.un .not (.tmp 10)),
  .s 12 (.mv (.tmp 11)),
  .g 13 12 false (.fa 3 (.tmp 1)),
  .g 14 12 false (.ld (.tmp 13)),
  .g 15 12 false (.call 130 [(.tmp 14)]),
  .g 16 12 false (.un .not (.tmp 15)),
  .s 17 (.pick (.tmp 12) (.const (.bool true)) (.tmp 16)),
  .s 18 (.mv (.tmp 17)),
  .g 19 18 false (.fa 6 (.tmp 1)),
  .g 20 18 false (.ld (.tmp 19)),
  .g 21 18 false (.slen (.tmp 20)),
  .g 22 18 false (.bin .gtr (.tmp 21) (.const (.int .i64 20))),
  .s 23 (.pick (.tmp 18) (.const (.bool true)) (.tmp 22)),
  .s 24 (.mv (.tmp 23)),
  .g 25 24 false (.fa 5 (.tmp 1)),
  .g 26 24 false (.ld (.tmp 25)),
  .g 27 24 false (.un .not (.tmp 26)),
  .g 28 24 false (.mv (.tmp 27)),
  .g 29 28 true (.fa 6 (.tmp 1)),
  .g 30 28 true (.ld (.tmp 29)),
  .g 31 28 true (.bin .neq (.tmp 30) (.const (.string .empty))),
  .g 32 24 false (.pick (.tmp 28) (.tmp 31) (.const (.bool false))),
  .s 33 (.pick (.tmp 24) (.const (.bool true)) (.tmp 32))])
  (.cnd (.tmp 33) (.seq (.reg [.s 2 (.mv (.const (.bool false)))])
   .ret)
   .skip))
 (.seq (.reg [.s 3 (.mv (.const (.int .i64 0))),
  .s 4 (.mv (.const (.bool false)))])
  (.seq (.seq (.reg [.s 5 (.mv (.const (.int .i64 0)))])
   (.blk 0 (.loop (.seq (.seq (.reg [.s 34 (.mv (.tmp 5)),
     .s 35 (.fa 3 (.tmp 1)),
     .s 36 (.ld (.tmp 35)),
     .s 37 (.len (.tmp 36)),
     .s 38 (.bin .lss (.tmp 34) (.tmp 37))])
     (.cnd (.tmp 38) .skip
      (.exit 0)))
    (.seq (.blk 1 (.seq (.seq (.reg [.s 41 (.fa 3 (.tmp 1)),
       .s 42 (.ld (.tmp 41)),
       .s 43 (.mv (.tmp 5)),
       .s 44 (.ia 4 (.tmp 42) (.tmp 43)),
       .s 45 (.fa 1 (.tmp 44)),
       .s 46 (.ld (.tmp 45)),
       .s 47 (.fa 0 (.tmp 1)),
       .s 48 (.ld (.tmp 47)),
       .s 49 (.bin .neq (.tmp 46) (.tmp 48))])
      (.cnd (.tmp 49) (.seq (.reg [.s 2 (.mv (.const (.bool false)))])
        .ret)
       .skip))
      (.seq (.seq (.reg [.s 50 (.fa 3 (.tmp 1)),
       .s 51 (.ld (.tmp 50)),
       .s 52 (.mv (.tmp 5)),
       .s 53 (.ia 4 (.tmp 51) (.tmp 52)),
       .s 54 (.fa 0 (.tmp 53)),
       .s 55 (.ld (.tmp 54)),
       .s 56 (.bin .neq (.tmp 55) (.const (.int .u8 2)))])
       (.cnd (.tmp 56) (.reg [.s 57 (.mv (.tmp 3)),
        .s 58 (.bin .add (.tmp 57) (.const (.int .i64 1))),
        .s 3 (.mv (.tmp 58))])
        .skip))
      (.reg [.s 59 (.mv (.tmp 4)),
       .s 60 (.mv (.tmp 59)),
       .g 61 60 false (.fa 3 (.tmp 1)),
       .g 62 60 false (.ld (.tmp 61)),
       .g 63 60 false (.mv (.tmp 5)),
       .g 64 60 false (.ia 4 (.tmp 62) (.tmp 63)),
       .g 65 60 false (.fa 0 (.tmp 64)),
       .g 66 60 false (.ld (.tmp 65)),
       .g 67 60 false (.bin .neq (.tmp 66) (.const (.int .u8 1))),
       .s 68 (.pick (.tmp 60) (.const (.bool true)) (.tmp 67)),
       .s 4 (.mv (.tmp 68))]))))
     (.reg [.s 39 (.mv (.tmp 5)),
     .s 40 (.bin .add (.tmp 39) (.const (.int .i64 1))),
     .s 5 (.mv (.tmp 40))]))))))
  (.seq (.seq (.reg [.s 6 (.mv (.const (.int .i64 0)))])
   (.blk 2 (.loop (.seq (.seq (.reg [.s 69 (.mv (.tmp 6)),
      .s 70 (.fa 4 (.tmp 1)),
      .s 71 (.ld (.tmp 70)),
      .s 72 (.len (.tmp 71)),
      .s 73 (.bin .lss (.tmp 69) (.tmp 72))])
     (.cnd (.tmp 73) .skip
      (.exit 2)))
     (.seq (.blk 3 (.seq (.reg [.s 76 (.fa 4 (.tmp 1)),
       .s 77 (.ld (.tmp 76)),
       .s 78 (.mv (.tmp 6)),
       .s 79 (.ia 3 (.tmp 77) (.tmp 78)),
       .s 80 (.ldn 3 (.tmp 79)),
       .s 7 (.new 100 [(.string .empty), (.bool false), (.string .empty)]),
       .e (.st 3 (.tmp 7) (.tmp 80))])
      (.seq (.reg [.s 81 (.fa 0 (.tmp 7)),
       .s 82 (.ld (.tmp 81)),
       .s 83 (.fa 0 (.tmp 1)),
       .s 84 (.ld (.tmp 83)),
       .s 85 (.bin .neq (.tmp 82) (.tmp 84)),
       .s 86 (.mv (.tmp 85)),
       .g 87 86 false (.fa 2 (.tmp 7)),
       .g 88 86 false (.ld (.tmp 87)),
       .g 89 86 false (.slen (.tmp 88)),
       .g 90 86 false (.bin .gtr (.tmp 89) (.const (.int .i64 20))),
       .s 91 (.pick (.tmp 86) (.const (.bool true)) (.tmp 90)),
       .s 92 (.mv (.tmp 91)),
       .g 93 92 false (.fa 1 (.tmp 7)),
       .g 94 92 false (.ld (.tmp 93)),
       .g 95 92 false (.un .not (.tmp 94)),
       .g 96 92 false (.mv (.tmp 95)),
       .g 97 96 true (.fa 2 (.tmp 7)),
       .g 98 96 true (.ld (.tmp 97)),
       .g 99 96 true (.bin .neq (.tmp 98) (.const (.string .empty))),
       .g 100 92 false (.pick (.tmp 96) (.tmp 99) (.const (.bool false))),
       .s 101 (.pick (.tmp 92) (.const (.bool true)) (.tmp 100))])
       (.cnd (.tmp 101) (.seq (.reg [.s 2 (.mv (.const (.bool false)))])
        .ret)
        .skip))))
     (.reg [.s 74 (.mv (.tmp 6)),
      .s 75 (.bin .add (.tmp 74) (.const (.int .i64 1))),
      .s 6 (.mv (.tmp 75))]))))))
   (.seq (.reg [.s 102 (.fa 4 (.tmp 1)),
    .s 103 (.ld (.tmp 102)),
    .s 104 (.len (.tmp 103)),
    .s 105 (.mv (.tmp 3)),
    .s 106 (.bin .eql (.tmp 104) (.tmp 105)),
    .s 107 (.mv (.tmp 106)),
    .g 108 107 true (.fa 5 (.tmp 1)),
    .g 109 107 true (.ld (.tmp 108)),
    .g 110 107 true (.mv (.tmp 4)),
    .g 111 107 true (.eqb false (.tmp 109) (.tmp 110)),
    .s 112 (.pick (.tmp 107) (.tmp 111) (.const (.bool false))),
    .s 2 (.mv (.tmp 112))])
   .ret)))))), [.t 2]⟩
theorem c_watershedref16_one : (compF Go.Proofs.Tryz.prog 72).map linF = some ir_watershedref16_one := by kernel_rfl
def ir_watershedref16_Right : FIR := ⟨16, (.seq (.reg [.s 2 (.mv (.const (.bool false)))])
 (.seq (.seq (.reg [.s 3 (.mv (.const (.int .i64 0)))])
  (.blk 0 (.loop (.seq (.seq (.reg [.s 4 (.mv (.tmp 3)),
    .s 5 (.mv (.tmp 0)),
    .s 6 (.len (.tmp 5)),
    .s 7 (.bin .lss (.tmp 4) (.tmp 6))])
    (.cnd (.tmp 7) .skip
     (.exit 0)))
   (.seq (.blk 1 (.seq (.reg [.s 10 (.mv (.tmp 0)),
     .s 11 (.mv (.tmp 3)),
     .s 12 (.ia 7 (.tmp 10) (.tmp 11)),
     .s 13 (.ldn 7 (.tmp 12)),
     .s 14 (.call 72 [(.tmp 13)]),
     .s 15 (.un .not (.tmp 14))])
     (.cnd (.tmp 15) (.seq (.reg [.s 2 (.mv (.const (.bool false)))])
      .ret)
      .skip)))
    (.reg [.s 8 (.mv (.tmp 3)),
    .s 9 (.bin .add (.tmp 8) (.const (.int .i64 1))),
    .s 3 (.mv (.tmp 9))]))))))
 (.seq (.reg [.s 2 (.mv (.const (.bool true)))])
  .ret))), [.t 2]⟩
theorem c_watershedref16_Right : (compF Go.Proofs.Tryz.prog 26).map linF = some ir_watershedref16_Right := by kernel_rfl
def ir_watershedref16_Bytes : FIR := ⟨192, (.seq (.reg [.s 2 (.mv (.const (.slice none 0 0))),
 .s 3 (.mv (.const (.bool false)))])
 (.seq (.reg [.s 31 (.mv (.tmp 0)),
  .s 32 (.len (.tmp 31)),
  .s 33 (.bsl 3 1 [(.int .i64 0)] [(0, 1, (.tmp 32))]),
  .s 34 (.call 68 [(.tmp 33), (.const (.slice none 0 0)), (.const (.slice none 0 0)), (.const (.slice none 0 0))]),
  .s 30 (.mv (.tmp 34)),
  .s 35 (.ext 0 (.tmp 30)),
  .s 36 (.ext 1 (.tmp 30)),
  .s 4 (.mv (.tmp 35)),
  .s 5 (.mv (.tmp 36))])
 (.seq (.reg [.s 6 (.mv (.const (.bool true)))])
  (.seq (.seq (.reg [.s 7 (.mv (.const (.int .i64 0)))])
   (.blk 0 (.loop (.seq (.seq (.reg [.s 37 (.mv (.tmp 7)),
     .s 38 (.mv (.tmp 0)),
     .s 39 (.len (.tmp 38)),
     .s 40 (.bin .lss (.tmp 37) (.tmp 39))])
     (.cnd (.tmp 40) .skip
      (.exit 0)))
    (.seq (.blk 1 (.seq (.reg [.s 43 (.mv (.tmp 0)),
      .s 44 (.mv (.tmp 7)),
      .s 45 (.ia 7 (.tmp 43) (.tmp 44)),
      .s 46 (.ldn 7 (.tmp 45)),
      .s 8 (.new 35 [(.string .empty), (.int .i64 0), (.int .i64 0), (.slice none 0 0), (.slice none 0 0), (.bool false), (.string .empty)]),
      .e (.st 7 (.tmp 8) (.tmp 46))])
      (.seq (.reg [.s 48 (.fa 0 (.tmp 8)),
       .s 49 (.ld (.tmp 48)),
       .s 50 (.bsl 9 1 [(.string .empty)] [(0, 1, (.tmp 49))]),
       .s 51 (.call 68 [(.const (.slice none 0 0)), (.const (.slice none 0 0)), (.tmp 50), (.const (.slice none 0 0))]),
       .s 47 (.mv (.tmp 51)),
       .s 52 (.ext 0 (.tmp 47)),
       .s 53 (.ext 1 (.tmp 47)),
       .s 9 (.mv (.tmp 52)),
       .s 10 (.mv (.tmp 53))])
      (.seq (.reg [.s 55 (.fa 1 (.tmp 8)),
       .s 56 (.fa 0 (.tmp 55)),
       .s 57 (.ld (.tmp 56)),
       .s 58 (.fa 1 (.tmp 8)),
       .s 59 (.fa 1 (.tmp 58)),
       .s 60 (.ld (.tmp 59)),
       .s 61 (.fa 3 (.tmp 8)),
       .s 62 (.ld (.tmp 61)),
       .s 63 (.len (.tmp 62)),
       .s 64 (.bsl 3 3 [(.int .i64 0), (.int .i64 0), (.int .i64 0)] [(0, 1, (.tmp 57)), (1, 1, (.tmp 60)), (2, 1, (.tmp 63))]),
       .s 65 (.call 68 [(.tmp 64), (.const (.slice none 0 0)), (.const (.slice none 0 0)), (.const (.slice none 0 0))]),
       .s 54 (.mv (.tmp 65)),
       .s 66 (.ext 0 (.tmp 54)),
       .s 67 (.ext 1 (.tmp 54)),
       .s 11 (.mv (.tmp 66)),
       .s 12 (.mv (.tmp 67))])
       (.seq (.reg [.s 68 (.mv (.tmp 4)),
        .s 69 (.mv (.tmp 9)),
        .s 70 (.app 5 1 1 [(.int .u8 0)] (.tmp 68) (.tmp 69)),
        .s 71 (.mv (.tmp 11)),
        .s 72 (.app 5 1 1 [(.int .u8 0)] (.tmp 70) (.tmp 71)),
        .s 4 (.mv (.tmp 72))])
       (.seq (.reg [.s 73 (.mv (.tmp 6)),
        .s 74 (.mv (.tmp 73)),
        .g 75 74 true (.mv (.tmp 12)),
        .g 76 74 true (.bin .eql (.tmp 75) (.const (.int .i64 0))),
        .s 77 (.pick (.tmp 74) (.tmp 76) (.const (.bool false))),
        .s 6 (.mv (.tmp 77))])
        (.seq (.seq (.reg [.s 13 (.mv (.const (.int .i64 0)))])
         (.blk 2 (.loop (.seq (.seq (.reg [.s 78 (.mv (.tmp 13)),
           .s 79 (.fa 3 (.tmp 8)),
           .s 80 (.ld (.tmp 79)),
           .s 81 (.len (.tmp 80)),
           .s 82 (.bin .lss (.tmp 78) (.tmp 81))])
           (.cnd (.tmp 82) .skip
            (.exit 2)))
          (.seq (.blk 3 (.seq (.reg [.s 85 (.fa 3 (.tmp 8)),
            .s 86 (.ld (.tmp 85)),
            .s 87 (.mv (.tmp 13)),
            .s 88 (.ia 4 (.tmp 86) (.tmp 87)),
            .s 89 (.ldn 4 (.tmp 88)),
            .s 14 (.new 98 [(.int .u8 0), (.string .empty), (.string .empty), (.int .i64 0)]),
            .e (.st 4 (.tmp 14) (.tmp 89))])
            (.seq (.reg [.s 91 (.fa 0 (.tmp 14)),
             .s 92 (.ld (.tmp 91)),
             .s 93 (.cvi .i64 (.tmp 92)),
             .s 94 (.bsl 3 1 [(.int .i64 0)] [(0, 1, (.tmp 93))]),
             .s 95 (.call 68 [(.tmp 94), (.const (.slice none 0 0)), (.const (.slice none 0 0)), (.const (.slice none 0 0))]),
             .s 90 (.mv (.tmp 95)),
             .s 96 (.ext 0 (.tmp 90)),
             .s 97 (.ext 1 (.tmp 90)),
             .s 15 (.mv (.tmp 96)),
             .s 16 (.mv (.tmp 97))])
            (.seq (.reg [.s 99 (.fa 2 (.tmp 14)),
             .s 100 (.ld (.tmp 99)),
             .s 101 (.bsl 9 1 [(.string .empty)] [(0, 1, (.tmp 100))]),
             .s 102 (.call 68 [(.const (.slice none 0 0)), (.const (.slice none 0 0)), (.tmp 101), (.const (.slice none 0 0))]),
             .s 98 (.mv (.tmp 102)),
             .s 103 (.ext 0 (.tmp 98)),
             .s 104 (.ext 1 (.tmp 98)),
             .s 17 (.mv (.tmp 103)),
             .s 18 (.mv (.tmp 104))])
             (.seq (.reg [.s 106 (.fa 3 (.tmp 14)),
              .s 107 (.ld (.tmp 106)),
              .s 108 (.bin .lss (.tmp 107) (.const (.int .i64 0))),
              .s 109 (.bsl 4 1 [(.bool false)] [(0, 1, (.tmp 108))]),
              .s 110 (.call 68 [(.const (.slice none 0 0)), (.tmp 109), (.const (.slice none 0 0)), (.const (.slice none 0 0))]),
              .s 105 (.mv (.tmp 110)),
              .s 111 (.ext 0 (.tmp 105)),
              .s 112 (.ext 1 (.tmp 105)),
              .s 19 (.mv (.tmp 111)),
              .s 20 (.mv (.tmp 112))])
             (.seq (.reg [.s 114 (.fa 3 (.tmp 14)),
              .s 115 (.ld (.tmp 114)),
              .s 116 (.fa 3 (.tmp 14)),
              .s 117 (.ld (.tmp 116)),
              .s 118 (.un .neg (.tmp 117)),
              .s 119 (.mx [(.tmp 115), (.tmp 118)]),
              .s 120 (.bsl 3 1 [(.int .i64 0)] [(0, 1, (.tmp 119))]),
              .s 121 (.call 68 [(.tmp 120), (.const (.slice none 0 0)), (.const (.slice none 0 0)), (.const (.slice none 0 0))]),
              .s 113 (.mv (.tmp 121)),
              .s 122 (.ext 0 (.tmp 113)),
              .s 123 (.ext 1 (.tmp 113)),
              .s 21 (.mv (.tmp 122)),
              .s 22 (.mv (.tmp 123))])
              (.seq (.reg [.s 124 (.mv (.tmp 4)),
               .s 125 (.mv (.tmp 15)),
               .s 126 (.app 5 1 1 [(.int .u8 0)] (.tmp 124) (.tmp 125)),
               .s 127 (.mv (.tmp 17)),
               .s 128 (.app 5 1 1 [(.int .u8 0)] (.tmp 126) (.tmp 127)),
               .s 129 (.mv (.tmp 19)),
               .s 130 (.app 5 1 1 [(.int .u8 0)] (.tmp 128) (.tmp 129)),
               .s 131 (.mv (.tmp 21)),
               .s 132 (.app 5 1 1 [(.int .u8 0)] (.tmp 130) (.tmp 131)),
               .s 4 (.mv (.tmp 132))])
              (.reg [.s 133 (.mv (.tmp 6)),
               .s 134 (.mv (.tmp 133)),
               .g 135 134 true (.mv (.tmp 22)),
               .g 136 134 true (.bin .eql (.tmp 135) (.const (.int .i64 0))),
               .s 137 (.pick (.tmp 134) (.tmp 136) (.const (.bool false))),
               .s 6 (.mv (.tmp 137))]))))))))
           (.reg [.s 83 (.mv (.tmp 13)),
           .s 84 (.bin .add (.tmp 83) (.const (.int .i64 1))),
           .s 13 (.mv (.tmp 84))]))))))
        (.seq (.reg [.s 139 (.fa 4 (.tmp 8)),
         .s 140 (.ld (.tmp 139)),
         .s 141 (.len (.tmp 140)),
         .s 142 (.bsl 3 1 [(.int .i64 0)] [(0, 1, (.tmp 141))]),
         .s 143 (.call 68 [(.tmp 142), (.const (.slice none 0 0)), (.const (.slice none 0 0)), (.const (.slice none 0 0))]),
         .s 138 (.mv (.tmp 143)),
         .s 144 (.ext 0 (.tmp 138)),
         .s 145 (.ext 1 (.tmp 138)),
         .s 23 (.mv (.tmp 144)),
         .s 24 (.mv (.tmp 145))])
         (.seq (.reg [.s 146 (.mv (.tmp 4)),
          .s 147 (.mv (.tmp 23)),
          .s 148 (.app 5 1 1 [(.int .u8 0)] (.tmp 146) (.tmp 147)),
          .s 4 (.mv (.tmp 148))])
         (.seq (.seq (.reg [.s 25 (.mv (.const (.int .i64 0)))])
          (.blk 4 (.loop (.seq (.seq (.reg [.s 149 (.mv (.tmp 25)),
             .s 150 (.fa 4 (.tmp 8)),
             .s 151 (.ld (.tmp 150)),
             .s 152 (.len (.tmp 151)),
             .s 153 (.bin .lss (.tmp 149) (.tmp 152))])
            (.cnd (.tmp 153) .skip
             (.exit 4)))
            (.seq (.blk 5 (.seq (.alc [(.st, .s 157 (.fa 4 (.tmp 8))),
              (.st, .s 158 (.ld (.tmp 157))),
              (.st, .s 159 (.mv (.tmp 25))),
              (.st, .s 160 (.ia 3 (.tmp 158) (.tmp 159))),
              (.st, .s 161 (.fa 1 (.tmp 160))),
              (.st, .s 162 (.ld (.tmp 161))),
              (.st, .s 164 (.fa 4 (.tmp 8))),
              (.st, .s 165 (.ld (.tmp 164))),
              (.st, .s 166 (.mv (.tmp 25))),
              (.st, .s 167 (.ia 3 (.tmp 165) (.tmp 166))),
              (.st, .s 168 (.fa 2 (.tmp 167))),
              (.st, .s 169 (.ld (.tmp 168))),
              (.al, .s 163 (.bsl 4 1 [(.bool false)] [(0, 1, (.tmp 162))])),
              (.al, .s 170 (.bsl 9 1 [(.string .empty)] [(0, 1, (.tmp 169))])),
              (.fi true, .s 171 (.call 68 [(.const (.slice none 0 0)), (.tmp 163), (.tmp 170), (.const (.slice none 0 0))])),
              (.st, .s 156 (.mv (.tmp 171))),
              (.st, .s 172 (.ext 0 (.tmp 156))),
              (.st, .s 173 (.ext 1 (.tmp 156))),
              (.st, .s 26 (.mv (.tmp 172))),
              (.st, .s 27 (.mv (.tmp 173)))])
             (.reg [.s 174 (.mv (.tmp 4)),
              .s 175 (.mv (.tmp 26)),
              .s 176 (.app 5 1 1 [(.int .u8 0)] (.tmp 174) (.tmp 175)),
              .s 4 (.mv (.tmp 176))])))
            (.reg [.s 154 (.mv (.tmp 25)),
             .s 155 (.bin .add (.tmp 154) (.const (.int .i64 1))),
             .s 25 (.mv (.tmp 155))]))))))
          (.seq (.reg [.s 178 (.fa 5 (.tmp 8)),
           .s 179 (.ld (.tmp 178)),
           .s 180 (.bsl 4 1 [(.bool false)] [(0, 1, (.tmp 179))]),
           .s 181 (.fa 6 (.tmp 8)),
           .s 182 (.ld (.tmp 181)),
           .s 183 (.bsl 9 1 [(.string .empty)] [(0, 1, (.tmp 182))]),
           .s 184 (.call 68 [(.const (.slice none 0 0)), (.tmp 180), (.tmp 183), (.const (.slice none 0 0))]),
           .s 177 (.mv (.tmp 184)),
           .s 185 (.ext 0 (.tmp 177)),
           .s 186 (.ext 1 (.tmp 177)),
           .s 28 (.mv (.tmp 185)),
           .s 29 (.mv (.tmp 186))])
          (.reg [.s 187 (.mv (.tmp 4)),
           .s 188 (.mv (.tmp 28)),
           .s 189 (.app 5 1 1 [(.int .u8 0)] (.tmp 187) (.tmp 188)),
           .s 4 (.mv (.tmp 189))]))))))))))))
     (.reg [.s 41 (.mv (.tmp 7)),
     .s 42 (.bin .add (.tmp 41) (.const (.int .i64 1))),
     .s 7 (.mv (.tmp 42))]))))))
  (.seq (.reg [.s 190 (.mv (.tmp 4)),
   .s 191 (.mv (.tmp 6)),
   .s 2 (.mv (.tmp 190)),
   .s 3 (.mv (.tmp 191))])
   .ret))))), [.t 2, .t 3]⟩
theorem c_watershedref16_Bytes : (compF Go.Proofs.Tryz.prog 23).map linF = some ir_watershedref16_Bytes := by kernel_rfl
def ir_watershedref16_hold : FIR := ⟨109, (.seq (.reg [.s 2 (.new 35 [(.string .empty), (.int .i64 0), (.int .i64 0), (.slice none 0 0), (.slice none 0 0), (.bool false), (.string .empty)]),
 .s 3 (.mv (.const (.bool false)))])
 (.seq (.reg [.s 12 (.mv (.tmp 0)),
  .s 13 (.call 140 [(.tmp 12), (.const (.int .i64 20))]),
  .s 14 (.cbs (.tmp 13)),
  .s 15 (.bld [(.string .empty), (.int .i64 0), (.int .i64 0), (.slice none 0 0), (.slice none 0 0), (.bool false), (.string .empty)] [(0, 1, (.tmp 14))]),
  .s 4 (.new 35 [(.string .empty), (.int .i64 0), (.int .i64 0), (.slice none 0 0), (.slice none 0 0), (.bool false), (.string .empty)]),
  .e (.st 7 (.tmp 4) (.tmp 15))])
 (.seq (.reg [.s 16 (.mv (.tmp 0)),
  .s 17 (.call 77 [(.tmp 16), (.const (.int .i64 8))]),
  .s 18 (.fa 1 (.tmp 4)),
  .s 19 (.fa 0 (.tmp 18)),
  .e (.st 1 (.tmp 19) (.tmp 17))])
  (.seq (.reg [.s 20 (.mv (.tmp 0)),
   .s 21 (.call 77 [(.tmp 20), (.const (.int .i64 1073741824))]),
   .s 22 (.fa 1 (.tmp 4)),
   .s 23 (.fa 1 (.tmp 22)),
   .e (.st 1 (.tmp 23) (.tmp 21))])
  (.seq (.reg [.s 24 (.mv (.tmp 0)),
   .s 25 (.call 77 [(.tmp 24), (.const (.int .i64 6))]),
   .s 5 (.mv (.tmp 25))])
   (.seq (.reg [.s 6 (.mv (.const (.bool true)))])
   (.seq (.seq (.reg [.s 7 (.mv (.const (.int .i64 0)))])
    (.blk 0 (.loop (.seq (.seq (.reg [.s 26 (.mv (.tmp 7)),
       .s 27 (.mv (.tmp 5)),
       .s 28 (.bin .lss (.tmp 26) (.tmp 27))])
      (.cnd (.tmp 28) .skip
       (.exit 0)))
      (.seq (.blk 1 (.seq (.alc [(.st, .s 31 (.mv (.tmp 0))),
        (.st, .s 34 (.fa 0 (.tmp 4))),
        (.st, .s 35 (.ld (.tmp 34))),
        (.ac [.s 8 (.new 98 [(.int .u8 0), (.string .empty), (.string .empty), (.int .i64 0)])], .s 32 (.call 77 [(.tmp 31), (.const (.int .i64 3))])),
        (.st, .s 33 (.cvi .u8 (.tmp 32))),
        (.st, .s 36 (.bld [(.int .u8 0), (.string .empty), (.string .empty), (.int .i64 0)] [(0, 1, (.tmp 33)), (1, 1, (.tmp 35))])),
        (.al, .s 8 (.new 98 [(.int .u8 0), (.string .empty), (.string .empty), (.int .i64 0)])),
        (.fi false, .e (.st 4 (.tmp 8) (.tmp 36)))])
       (.seq (.reg [.s 37 (.mv (.tmp 0)),
        .s 38 (.call 140 [(.tmp 37), (.const (.int .i64 20))]),
        .s 39 (.cbs (.tmp 38)),
        .s 40 (.fa 2 (.tmp 8)),
        .e (.st 1 (.tmp 40) (.tmp 39))])
        (.seq (.reg [.s 41 (.mv (.tmp 0)),
         .s 42 (.call 141 [(.tmp 41)]),
         .s 9 (.mv (.tmp 42))])
        (.seq (.reg [.s 43 (.mv (.tmp 0)),
         .s 44 (.call 77 [(.tmp 43), (.const (.int .i64 1073741824))]),
         .s 45 (.fa 3 (.tmp 8)),
         .e (.st 1 (.tmp 45) (.tmp 44))])
         (.seq (.reg [.s 46 (.mv (.tmp 6)),
          .s 47 (.mv (.tmp 46)),
          .g 48 47 true (.mv (.tmp 9)),
          .g 49 47 true (.mv (.tmp 48)),
          .g 50 49 true (.fa 3 (.tmp 8)),
          .g 51 49 true (.ld (.tmp 50)),
          .g 52 49 true (.bin .eql (.tmp 51) (.const (.int .i64 0))),
          .g 53 47 true (.pick (.tmp 49) (.tmp 52) (.const (.bool false))),
          .g 54 47 true (.un .not (.tmp 53)),
          .s 55 (.pick (.tmp 47) (.tmp 54) (.const (.bool false))),
          .s 6 (.mv (.tmp 55))])
         (.seq (.seq (.reg [.s 56 (.mv (.tmp 9))])
          (.cnd (.tmp 56) (.reg [.s 57 (.fa 3 (.tmp 8)),
            .s 58 (.ld (.tmp 57)),
            .s 59 (.un .neg (.tmp 58)),
            .s 60 (.fa 3 (.tmp 8)),
            .e (.st 1 (.tmp 60) (.tmp 59))])
           .skip))
          (.reg [.s 61 (.fa 3 (.tmp 4)),
          .s 62 (.ld (.tmp 61)),
          .s 63 (.ldn 4 (.tmp 8)),
          .s 64 (.bsl 98 1 [(.int .u8 0), (.string .empty), (.string .empty), (.int .i64 0)] [(0, 4, (.tmp 63))]),
          .s 65 (.app 98 4 48 [(.int .u8 0), (.string .empty), (.string .empty), (.int .i64 0)] (.tmp 62) (.tmp 64)),
          .s 66 (.fa 3 (.tmp 4)),
          .e (.st 1 (.tmp 66) (.tmp 65))]))))))))
      (.reg [.s 29 (.mv (.tmp 7)),
       .s 30 (.bin .add (.tmp 29) (.const (.int .i64 1))),
       .s 7 (.mv (.tmp 30))]))))))
    (.seq (.reg [.s 67 (.mv (.tmp 0)),
     .s 68 (.call 77 [(.tmp 67), (.const (.int .i64 6))]),
     .s 5 (.mv (.tmp 68))])
    (.seq (.seq (.reg [.s 10 (.mv (.const (.int .i64 0)))])
     (.blk 2 (.loop (.seq (.seq (.reg [.s 69 (.mv (.tmp 10)),
        .s 70 (.mv (.tmp 5)),
        .s 71 (.bin .lss (.tmp 69) (.tmp 70))])
       (.cnd (.tmp 71) .skip
        (.exit 2)))
       (.seq (.blk 3 (.seq (.alc [(.st, .s 74 (.fa 0 (.tmp 4))),
         (.st, .s 75 (.ld (.tmp 74))),
         (.st, .s 76 (.mv (.tmp 0))),
         (.ac [.s 11 (.new 100 [(.string .empty), (.bool false), (.string .empty)])], .s 77 (.call 141 [(.tmp 76)])),
         (.st, .s 78 (.bld [(.string .empty), (.bool false), (.string .empty)] [(0, 1, (.tmp 75)), (1, 1, (.tmp 77))])),
         (.al, .s 11 (.new 100 [(.string .empty), (.bool false), (.string .empty)])),
         (.fi false, .e (.st 3 (.tmp 11) (.tmp 78)))])
        (.seq (.reg [.s 79 (.mv (.tmp 0)),
         .s 80 (.call 140 [(.tmp 79), (.const (.int .i64 20))]),
         .s 81 (.cbs (.tmp 80)),
         .s 82 (.fa 2 (.tmp 11)),
         .e (.st 1 (.tmp 82) (.tmp 81))])
         (.reg [.s 83 (.fa 4 (.tmp 4)),
         .s 84 (.ld (.tmp 83)),
         .s 85 (.ldn 3 (.tmp 11)),
         .s 86 (.bsl 100 1 [(.string .empty), (.bool false), (.string .empty)] [(0, 3, (.tmp 85))]),
         .s 87 (.app 100 3 40 [(.string .empty), (.bool false), (.string .empty)] (.tmp 84) (.tmp 86)),
         .s 88 (.fa 4 (.tmp 4)),
         .e (.st 1 (.tmp 88) (.tmp 87))]))))
       (.reg [.s 72 (.mv (.tmp 10)),
        .s 73 (.bin .add (.tmp 72) (.const (.int .i64 1))),
        .s 10 (.mv (.tmp 73))]))))))
     (.seq (.reg [.s 89 (.mv (.tmp 0)),
      .s 90 (.call 141 [(.tmp 89)]),
      .s 91 (.fa 5 (.tmp 4)),
      .e (.st 1 (.tmp 91) (.tmp 90))])
     (.seq (.reg [.s 92 (.mv (.tmp 0)),
      .s 93 (.call 140 [(.tmp 92), (.const (.int .i64 20))]),
      .s 94 (.cbs (.tmp 93)),
      .s 95 (.fa 6 (.tmp 4)),
      .e (.st 1 (.tmp 95) (.tmp 94))])
      (.seq (.lin [(false, .s 96 (.ldn 7 (.tmp 4))),
       (false, .s 97 (.mv (.tmp 6))),
       (false, .s 98 (.mv (.tmp 97))),
       (false, .g 99 98 true (.mv (.tmp 0))),
       (false, .g 100 98 true (.nck (.tmp 99))),
       (false, .g 101 98 true (.fa 1 (.tmp 100))),
       (false, .g 102 98 true (.ld (.tmp 101))),
       (false, .g 103 98 true (.un .not (.tmp 102))),
       (false, .s 104 (.pick (.tmp 98) (.tmp 103) (.const (.bool false)))),
       (false, .s 105 (.mv (.tmp 104))),
       (false, .g 106 105 true (.ldn 7 (.tmp 4))),
       (true, .g 107 105 true (.call 72 [(.tmp 106)])),
       (false, .s 108 (.pick (.tmp 105) (.tmp 107) (.const (.bool false)))),
       (true, .e (.st 7 (.tmp 2) (.tmp 96))),
       (false, .s 3 (.mv (.tmp 108)))])
      .ret)))))))))))), [.cn 2 7, .t 3]⟩
theorem c_watershedref16_hold : (compF Go.Proofs.Tryz.prog 78).map linF = some ir_watershedref16_hold := by kernel_rfl
def ir_watershedref16_Read : FIR := ⟨47, (.seq (.reg [.s 2 (.mv (.const (.slice none 0 0))),
 .s 3 (.mv (.const (.bool false)))])
 (.seq (.reg [.s 9 (.mv (.tmp 0)),
  .s 10 (.call 77 [(.tmp 9), (.const (.int .i64 60))]),
  .s 4 (.mv (.tmp 10))])
 (.seq (.reg [.s 5 (.mv (.const (.slice none 0 0)))])
  (.seq (.seq (.reg [.s 6 (.mv (.const (.int .i64 0)))])
   (.blk 0 (.loop (.seq (.seq (.reg [.s 11 (.mv (.tmp 6)),
     .s 12 (.mv (.tmp 4)),
     .s 13 (.bin .lss (.tmp 11) (.tmp 12))])
     (.cnd (.tmp 13) .skip
      (.exit 0)))
    (.seq (.blk 1 (.seq (.reg [.s 17 (.mv (.tmp 0)),
      .s 18 (.call 78 [(.tmp 17)]),
      .s 16 (.mv (.tmp 18)),
      .s 19 (.ext 0 (.tmp 16)),
      .s 20 (.ext 1 (.tmp 16)),
      .s 7 (.new 35 [(.string .empty), (.int .i64 0), (.int .i64 0), (.slice none 0 0), (.slice none 0 0), (.bool false), (.string .empty)]),
      .e (.st 7 (.tmp 7) (.tmp 19)),
      .s 8 (.mv (.tmp 20))])
      (.seq (.seq (.reg [.s 21 (.mv (.tmp 8)),
       .s 22 (.un .not (.tmp 21)),
       .s 23 (.mv (.tmp 22)),
       .g 24 23 false (.mv (.tmp 6)),
       .g 25 23 false (.bin .gtr (.tmp 24) (.const (.int .i64 0))),
       .g 26 23 false (.mv (.tmp 25)),
       .g 27 26 true (.mv (.tmp 5)),
       .g 28 26 true (.mv (.tmp 6)),
       .g 29 26 true (.bin .sub (.tmp 28) (.const (.int .i64 1))),
       .g 30 26 true (.ia 7 (.tmp 27) (.tmp 29)),
       .g 31 26 true (.fa 0 (.tmp 30)),
       .g 32 26 true (.ld (.tmp 31)),
       .g 33 26 true (.fa 0 (.tmp 7)),
       .g 34 26 true (.ld (.tmp 33)),
       .g 35 26 true (.bin .geq (.tmp 32) (.tmp 34)),
       .g 36 23 false (.pick (.tmp 26) (.tmp 35) (.const (.bool false))),
       .s 37 (.pick (.tmp 23) (.const (.bool true)) (.tmp 36))])
       (.cnd (.tmp 37) (.seq (.reg [.s 2 (.mv (.const (.slice none 0 0))),
         .s 3 (.mv (.const (.bool false)))])
        .ret)
        .skip))
      (.reg [.s 38 (.mv (.tmp 5)),
       .s 39 (.ldn 7 (.tmp 7)),
       .s 40 (.bsl 35 1 [(.string .empty), (.int .i64 0), (.int .i64 0), (.slice none 0 0), (.slice none 0 0), (.bool false), (.string .empty)] [(0, 7, (.tmp 39))]),
       .s 41 (.app 35 7 104 [(.string .empty), (.int .i64 0), (.int .i64 0), (.slice none 0 0), (.slice none 0 0), (.bool false), (.string .empty)] (.tmp 38) (.tmp 40)),
       .s 5 (.mv (.tmp 41))]))))
     (.reg [.s 14 (.mv (.tmp 6)),
     .s 15 (.bin .add (.tmp 14) (.const (.int .i64 1))),
     .s 6 (.mv (.tmp 15))]))))))
  (.seq (.seq (.reg [.s 42 (.mv (.tmp 0)),
    .s 43 (.nck (.tmp 42)),
    .s 44 (.fa 1 (.tmp 43)),
    .s 45 (.ld (.tmp 44))])
   (.cnd (.tmp 45) (.seq (.reg [.s 2 (.mv (.const (.slice none 0 0))),
     .s 3 (.mv (.const (.bool false)))])
     .ret)
    .skip))
   (.seq (.reg [.s 46 (.mv (.tmp 5)),
    .s 2 (.mv (.tmp 46)),
    .s 3 (.mv (.const (.bool true)))])
   .ret)))))), [.t 2, .t 3]⟩
theorem c_watershedref16_Read : (compF Go.Proofs.Tryz.prog 30).map linF = some ir_watershedref16_Read := by kernel_rfl
def ir_watershedlaw16_HoldsBytes : FIR := ⟨118, (.seq (.reg [.s 4 (.mv (.const (.bool false)))])
 (.seq (.seq (.reg [.s 18 (.call 9 []),
  .s 19 (.un .not (.tmp 18))])
  (.cnd (.tmp 19) (.seq (.reg [.s 4 (.mv (.const (.bool false)))])
   .ret)
   .skip))
 (.seq (.seq (.reg [.s 20 (.mv (.tmp 0)),
   .s 21 (.call 10 [(.tmp 20), (.const (.int .i64 1500))]),
   .s 22 (.bin .gtr (.tmp 21) (.const (.int .i64 1500))),
   .s 23 (.mv (.tmp 22)),
   .g 24 23 false (.mv (.tmp 1)),
   .g 25 23 false (.len (.tmp 24)),
   .g 26 23 false (.bin .gtr (.tmp 25) (.const (.int .i64 20000))),
   .s 27 (.pick (.tmp 23) (.const (.bool true)) (.tmp 26))])
  (.cnd (.tmp 27) (.seq (.reg [.s 4 (.mv (.const (.bool true)))])
    .ret)
   .skip))
  (.seq (.reg [.s 28 (.mv (.tmp 0)),
   .s 29 (.call 19 [(.tmp 28)]),
   .s 5 (.mv (.tmp 29))])
  (.seq (.reg [.s 31 (.call 21 []),
   .s 32 (.mv (.tmp 5)),
   .s 33 (.call 20 [(.tmp 31), (.tmp 32)]),
   .s 34 (.call 22 [(.tmp 33)]),
   .s 30 (.mv (.tmp 34)),
   .s 35 (.ext 0 (.tmp 30)),
   .s 36 (.ext 1 (.tmp 30)),
   .s 6 (.mv (.tmp 35)),
   .s 7 (.mv (.tmp 36))])
   (.seq (.reg [.s 38 (.mv (.tmp 0)),
    .s 39 (.call 23 [(.tmp 38)]),
    .s 37 (.mv (.tmp 39)),
    .s 40 (.ext 0 (.tmp 37)),
    .s 41 (.ext 1 (.tmp 37)),
    .s 8 (.mv (.tmp 40)),
    .s 9 (.mv (.tmp 41))])
   (.seq (.seq (.reg [.s 42 (.mv (.tmp 7)),
     .s 43 (.bin .eql (.tmp 42) (.const (.int .i64 0))),
     .s 44 (.mv (.tmp 9)),
     .s 45 (.eqb true (.tmp 43) (.tmp 44)),
     .s 46 (.mv (.tmp 45)),
     .g 47 46 false (.mv (.tmp 9)),
     .g 48 46 false (.mv (.tmp 47)),
     .g 49 48 true (.mv (.tmp 6)),
     .g 50 48 true (.mv (.tmp 8)),
     .g 51 48 true (.call 24 [(.tmp 49), (.tmp 50)]),
     .g 52 48 true (.un .not (.tmp 51)),
     .g 53 46 false (.pick (.tmp 48) (.tmp 52) (.const (.bool false))),
     .s 54 (.pick (.tmp 46) (.const (.bool true)) (.tmp 53)),
     .s 55 (.mv (.tmp 54)),
     .g 56 55 false (.mv (.tmp 5)),
     .g 57 55 false (.call 25 [(.tmp 56)]),
     .g 58 55 false (.mv (.tmp 0)),
     .g 59 55 false (.call 26 [(.tmp 58)]),
     .g 60 55 false (.eqb true (.tmp 57) (.tmp 59)),
     .s 61 (.pick (.tmp 55) (.const (.bool true)) (.tmp 60)),
     .s 62 (.mv (.tmp 61)),
     .g 63 62 false (.mv (.tmp 5)),
     .g 64 62 false (.mv (.tmp 0)),
     .g 65 62 false (.call 27 [(.tmp 63), (.tmp 64)]),
     .g 66 62 false (.un .not (.tmp 65)),
     .s 67 (.pick (.tmp 62) (.const (.bool true)) (.tmp 66))])
    (.cnd (.tmp 67) (.seq (.reg [.s 4 (.mv (.const (.bool false)))])
      .ret)
     .skip))
    (.seq (.reg [.s 68 (.mv (.tmp 6)),
     .s 69 (.mv (.tmp 1)),
     .s 70 (.bsl 46 2 [(.slice none 0 0), (.slice none 0 0)] [(0, 1, (.tmp 68)), (1, 1, (.tmp 69))]),
     .s 10 (.mv (.tmp 70))])
    (.seq (.seq (.reg [.s 11 (.mv (.const (.int .i64 0)))])
     (.blk 0 (.loop (.seq (.seq (.reg [.s 71 (.mv (.tmp 11)),
        .s 72 (.bin .lss (.tmp 71) (.const (.int .i64 2)))])
       (.cnd (.tmp 72) .skip
        (.exit 0)))
       (.seq (.blk 1 (.seq (.alc [(.st, .s 75 (.mv (.tmp 10))),
         (.st, .s 76 (.mv (.tmp 11))),
         (.st, .s 77 (.ia 1 (.tmp 75) (.tmp 76))),
         (.st, .s 78 (.ld (.tmp 77))),
         (.st, .s 80 (.mv (.tmp 10))),
         (.st, .s 81 (.mv (.tmp 11))),
         (.st, .s 82 (.ia 1 (.tmp 80) (.tmp 81))),
         (.st, .s 83 (.ld (.tmp 82))),
         (.st, .s 84 (.bld [(.slice none 0 0), (.bool false)] [(0, 1, (.tmp 83))])),
         (.ac [.s 85 (.box 64 (.tmp 84))], .s 79 (.call 28 [(.tmp 78)])),
         (.st, .s 12 (.mv (.tmp 79))),
         (.al, .s 85 (.box 64 (.tmp 84))),
         (.st, .s 13 (.mv (.tmp 85)))])
        (.seq (.reg [.s 87 (.mv (.tmp 12)),
         .s 88 (.call 29 [(.tmp 87)]),
         .s 86 (.mv (.tmp 88)),
         .s 89 (.ext 0 (.tmp 86)),
         .s 90 (.ext 1 (.tmp 86)),
         .s 14 (.mv (.tmp 89)),
         .s 15 (.mv (.tmp 90))])
         (.seq (.reg [.s 92 (.mv (.tmp 13)),
          .s 93 (.call 30 [(.tmp 92)]),
          .s 91 (.mv (.tmp 93)),
          .s 94 (.ext 0 (.tmp 91)),
          .s 95 (.ext 1 (.tmp 91)),
          .s 16 (.mv (.tmp 94)),
          .s 17 (.mv (.tmp 95))])
         (.seq (.lin [(false, .s 96 (.mv (.tmp 15))),
          (false, .s 97 (.mv (.tmp 17))),
          (false, .s 98 (.eqb true (.tmp 96) (.tmp 97))),
          (false, .s 99 (.mv (.tmp 98))),
          (false, .g 100 99 false (.mv (.tmp 14))),
          (false, .g 101 99 false (.mv (.tmp 16))),
          (false, .g 102 99 false (.call 31 [(.tmp 100), (.tmp 101)])),
          (false, .g 103 99 false (.un .not (.tmp 102))),
          (false, .s 104 (.pick (.tmp 99) (.const (.bool true)) (.tmp 103))),
          (false, .s 105 (.mv (.tmp 104))),
          (false, .g 106 105 false (.mv (.tmp 15))),
          (false, .g 107 105 false (.mv (.tmp 106))),
          (false, .g 108 107 true (.mv (.tmp 12))),
          (false, .g 110 107 true (.mv (.tmp 13))),
          (false, .g 111 107 true (.nck (.tmp 110))),
          (false, .g 112 107 true (.fa 0 (.tmp 111))),
          (false, .g 113 107 true (.ld (.tmp 112))),
          (false, .g 114 107 true (.len (.tmp 113))),
          (true, .g 109 107 true (.call 32 [(.tmp 108)])),
          (false, .g 115 107 true (.bin .neq (.tmp 109) (.tmp 114))),
          (false, .g 116 105 false (.pick (.tmp 107) (.tmp 115) (.const (.bool false)))),
          (false, .s 117 (.pick (.tmp 105) (.const (.bool true)) (.tmp 116)))])
          (.cnd (.tmp 117) (.seq (.reg [.s 4 (.mv (.const (.bool false)))])
           .ret)
           .skip))))))
       (.reg [.s 73 (.mv (.tmp 11)),
        .s 74 (.bin .add (.tmp 73) (.const (.int .i64 1))),
        .s 11 (.mv (.tmp 74))]))))))
     (.seq (.reg [.s 4 (.mv (.const (.bool true)))])
     .ret)))))))))), [.t 4]⟩
theorem c_watershedlaw16_HoldsBytes : (compF Go.Proofs.Tryz.prog 4).map linF = some ir_watershedlaw16_HoldsBytes := by kernel_rfl
end Go.WK
/-
 The reference's keys, values, acts and holds.
-/
namespace Go.WK
open Go Go.Proofs

set_option maxHeartbeats 4000000 in
theorem Key4_cl {H : Hp} (s : ByteArray) (hs : Sz s) : Cl Tryz.prog 191 [.string s] H fun r H' => r = .bool (isKey s) ∧ H' = H := by
 unfold Sz big at hs
 refine cl_of mixed c_watershedref04_Key (Nat.le_of_ble_eq_true rfl) ?_
 simp only [fwp, ir_watershedref04_Key, argF, Nat.reduceAdd]
 refine w_reg fun K hK => ?_; simp (disch := omega) only [↓wD, wU, simprocAttr]; refine hK _ _ ?_; clear hK K
 refine w_seq (w_seq ?_)
 by_cases h1 : s.size = 0
 ·have e : s = .empty := by
   have : s.data = #[] := Array.eq_empty_of_size_eq_zero h1
   cases s; simp at this; subst this; rfl
  subst e
  have z : (((0 : Nat) : Int) < 1) = True := by simp
  refine w_reg fun K hK => ?_; simp (disch := omega) only [↓wD, wU, simprocAttr, ByteArray.size_empty, z]; refine hK _ _ ?_; clear hK K
  refine wt ?_
  refine w_reg fun K hK => ?_; simp (disch := omega) only [↓wD, wU, simprocAttr]; refine hK _ _ ?_; clear hK K
  refine w_ret ?_; (with_reducible repeat first | apply q_n | apply q_e | apply q_r | apply bq_n | apply bq_e | apply bq_r | apply bq_o rfl); refine ret1 (by (try simp only [wL, Nat.reduceBEq]); rfl) ?_
  exact ⟨by simp [isKey], rfl⟩
 have h1e : ¬ s = .empty := fun e => h1 (by subst e; rfl)
 have h1' : ((s.size : Int) < 1) = False := by simp; omega
 have h1'' : (s.size < 1) = False := by simp; omega
 by_cases h2 : (20 : Int) < s.size
 ·refine w_reg fun K hK => ?_; simp (disch := omega) only [↓wD, wU, simprocAttr, h1', h1'', h2]; refine hK _ _ ?_; clear hK K
  refine wt ?_
  refine w_reg fun K hK => ?_; simp (disch := omega) only [↓wD, wU, simprocAttr]; refine hK _ _ ?_; clear hK K
  refine w_ret ?_; (with_reducible repeat first | apply q_n | apply q_e | apply q_r | apply bq_n | apply bq_e | apply bq_r | apply bq_o rfl); refine ret1 (by (try simp only [wL, Nat.reduceBEq]); rfl) ?_
  refine ⟨?_, rfl⟩
  have : ¬ s.size ≤ 20 := by omega
  simp [isKey, this]
 refine w_reg fun K hK => ?_; simp (disch := omega) only [↓wD, wU, simprocAttr, h1', h1'', h2]; refine hK _ _ ?_; clear hK K
 refine wf ?_
 refine w_skip ?_
 (with_reducible repeat first | apply q_n | apply q_e | apply q_r | apply bq_n | apply bq_e | apply bq_r | apply bq_o rfl)
 refine w_seq (w_seq ?_)
 refine w_reg fun K hK => ?_; simp (disch := omega) only [↓wD, wU, simprocAttr]; refine hK _ _ ?_; clear hK K
 refine w_blk (w_loop (fun n f H' => H' = H ∧ f 0 = .string s ∧ ∃ i : Nat, f 3 = .int .i64 i ∧ i ≤ s.size ∧ (∀ j c, j < i → s.data[j]? = some c → keyByte c = true) ∧ n = s.size - i) _ ⟨rfl, rfl, 0, rfl, Nat.zero_le _, fun j c hj => by omega, rfl⟩ ?_)
 rintro n f H' ⟨rfl, f0, i, f3, hi, hkey, rfl⟩
 refine w_seq (w_seq ?_)
 by_cases hlt : i < s.size
 ·obtain ⟨c, hc⟩ : ∃ c, s.data[i]? = some c := ⟨_, Array.getElem?_eq_getElem hlt⟩
  refine w_reg fun K hK => ?_; simp (disch := omega) only [↓wD, wU, simprocAttr, f0, f3, hlt]; refine hK _ _ ?_; clear hK K
  refine wt ?_
  refine w_skip ?_
  (with_reducible repeat first | apply q_n | apply q_e | apply q_r | apply bq_n | apply bq_e | apply bq_r | apply bq_o rfl)
  refine w_seq (w_blk ?_)
  refine w_seq ?_
  have hk' : keyByte c = true ↔ ((97 : Int) ≤ c.toNat ∧ (c.toNat : Int) ≤ 122) ∨ ((48 : Int) ≤ c.toNat ∧ (c.toNat : Int) ≤ 57) := by
   simp only [keyByte, Bool.or_eq_true, Bool.and_eq_true, decide_eq_true_eq]; omega
  cases hk : keyByte c with
  | true =>
   rw [hk] at hk'
   simp only [true_iff] at hk'
   by_cases a1 : (97 : Int) ≤ c.toNat <;> by_cases a2 : (c.toNat : Int) ≤ 122 <;> by_cases a3 : (48 : Int) ≤ c.toNat <;> by_cases a4 : (c.toNat : Int) ≤ 57 <;> (try omega)
   all_goals
    refine w_reg fun K hK => ?_; simp (disch := omega) only [↓wD, wU, simprocAttr, f0, f3, hc, hlt, a1, a2, a3, a4]; refine hK _ _ ?_; clear hK K
    refine wf ?_
    refine w_skip ?_
    (with_reducible repeat first | apply q_n | apply q_e | apply q_r | apply bq_n | apply bq_e | apply bq_r | apply bq_o rfl)
    refine w_reg1 fun K hK => ?_; simp (disch := omega) only [↓wD, wU, simprocAttr, f3]; refine hK _ _ ?_; clear hK K
    (with_reducible repeat first | apply q_n | apply q_e | apply q_r | apply bq_n | apply bq_e | apply bq_r | apply bq_o rfl)
    exact ⟨s.size - (i + 1), by omega, rfl, (by simp only [wL, Nat.reduceBEq, f0]), i + 1, (by simp only [wL, Nat.reduceBEq]), by omega, fun j c' hj hc' => (by
     by_cases hji : j = i
     ·subst hji; rw [hc] at hc'; cases hc'; exact hk
     ·exact hkey j c' (by omega) hc'), rfl⟩
  | false =>
   rw [hk] at hk'
   simp only [Bool.false_eq_true, false_iff] at hk'
   by_cases a1 : (97 : Int) ≤ c.toNat <;> by_cases a2 : (c.toNat : Int) ≤ 122 <;> by_cases a3 : (48 : Int) ≤ c.toNat <;> by_cases a4 : (c.toNat : Int) ≤ 57 <;> (try omega)
   all_goals
    refine w_reg fun K hK => ?_; simp (disch := omega) only [↓wD, wU, simprocAttr, f0, f3, hc, hlt, a1, a2, a3, a4]; refine hK _ _ ?_; clear hK K
    refine wt ?_
    refine w_reg fun K hK => ?_; simp (disch := omega) only [↓wD, wU, simprocAttr]; refine hK _ _ ?_; clear hK K
    refine w_ret ?_; (with_reducible repeat first | apply q_n | apply q_e | apply q_r | apply bq_n | apply bq_e | apply bq_r | apply bq_o rfl); refine ret1 (by (try simp only [wL, Nat.reduceBEq]); rfl) ?_
    exact ⟨by rw [isKey_f hc hk], rfl⟩
 ·refine w_reg fun K hK => ?_; simp (disch := omega) only [↓wD, wU, simprocAttr, f0, f3, hlt]; refine hK _ _ ?_; clear hK K
  refine wf ?_
  refine w_exit ?_
  (with_reducible repeat first | apply q_n | apply q_e | apply q_r | apply bq_n | apply bq_e | apply bq_r | apply bq_o rfl)
  refine w_reg fun K hK => ?_; simp (disch := omega) only [↓wD, wU, simprocAttr]; refine hK _ _ ?_; clear hK K
  refine w_ret ?_; (with_reducible repeat first | apply q_n | apply q_e | apply q_r | apply bq_n | apply bq_e | apply bq_r | apply bq_o rfl); refine ret1 (by (try simp only [wL, Nat.reduceBEq]); rfl) ?_
  refine ⟨?_, rfl⟩
  rw [isKey_t h1e h2 fun c hc => ?_]
  obtain ⟨j, hj, e⟩ := List.getElem_of_mem hc
  have hj' : j < s.data.size := by simpa using hj
  have hsz : s.data.size = s.size := rfl
  exact hkey j c (by omega) (by rw [Array.getElem?_eq_getElem hj']; simpa using e)
theorem inSet_iff (c : UInt8) : inSet [97, 98, 99, 100, 101, 102, 103, 104, 105, 106, 107, 108, 109, 110, 111, 112, 113, 114, 115, 116, 117, 118, 119, 120, 121, 122, 48, 49, 50, 51, 52, 53, 54, 55, 56, 57, 45] c = true ↔ ((97 : Int) ≤ c.toNat ∧ (c.toNat : Int) ≤ 122) ∨ ((48 : Int) ≤ c.toNat ∧ (c.toNat : Int) ≤ 57) ∨ (c.toNat : Int) = 45 := by
 simp only [inSet, List.any_cons, List.any_nil, Bool.or_eq_true, beq_iff_eq, Bool.or_false, UInt8.reduceToNat]
 omega
set_option maxHeartbeats 4000000 in
theorem value14_cl {H : Hp} (s : ByteArray) (hs : Sz s) : Cl Tryz.prog 192 [.string s] H fun r H' => r = .bool (decide ((s.size : Int) ≤ 20) && textB s) ∧ H' = H := by
 unfold Sz big at hs
 refine cl_of mixed c_watershedref14_value (Nat.le_of_ble_eq_true rfl) ?_
 simp only [fwp, ir_watershedref14_value, argF, Nat.reduceAdd]
 refine w_reg fun K hK => ?_; simp (disch := omega) only [↓wD, wU, simprocAttr]; refine hK _ _ ?_; clear hK K
 refine w_seq (w_seq ?_)
 refine w_reg fun K hK => ?_; simp (disch := omega) only [↓wD, wU, simprocAttr]; refine hK _ _ ?_; clear hK K
 refine w_blk (w_loop (fun n f H' => H' = H ∧ f 0 = .string s ∧ ∃ i : Nat, f 3 = .int .i64 i ∧ i ≤ s.size ∧ (∀ j c, j < i → s.data[j]? = some c → inSet [97, 98, 99, 100, 101, 102, 103, 104, 105, 106, 107, 108, 109, 110, 111, 112, 113, 114, 115, 116, 117, 118, 119, 120, 121, 122, 48, 49, 50, 51, 52, 53, 54, 55, 56, 57, 45] c = true) ∧ n = s.size - i) _ ⟨rfl, rfl, 0, rfl, Nat.zero_le _, fun j c hj => by omega, rfl⟩ ?_)
 rintro n f H' ⟨rfl, f0, i, f3, hi, hkey, rfl⟩
 refine w_seq (w_seq ?_)
 by_cases hlt : i < s.size
 ·obtain ⟨c, hc⟩ : ∃ c, s.data[i]? = some c := ⟨_, Array.getElem?_eq_getElem hlt⟩
  refine w_reg fun K hK => ?_; simp (disch := omega) only [↓wD, wU, simprocAttr, f0, f3, hlt]; refine hK _ _ ?_; clear hK K
  refine wt ?_
  refine w_skip ?_
  (with_reducible repeat first | apply q_n | apply q_e | apply q_r | apply bq_n | apply bq_e | apply bq_r | apply bq_o rfl)
  refine w_seq (w_blk ?_)
  refine w_seq ?_
  have hk' := inSet_iff c
  cases hk : inSet [97, 98, 99, 100, 101, 102, 103, 104, 105, 106, 107, 108, 109, 110, 111, 112, 113, 114, 115, 116, 117, 118, 119, 120, 121, 122, 48, 49, 50, 51, 52, 53, 54, 55, 56, 57, 45] c with
  | true =>
   rw [hk] at hk'
   simp only [true_iff] at hk'
   by_cases a1 : (97 : Int) ≤ c.toNat <;> by_cases a2 : (c.toNat : Int) ≤ 122 <;> by_cases a3 : (48 : Int) ≤ c.toNat <;> by_cases a4 : (c.toNat : Int) ≤ 57 <;> by_cases a5 : (c.toNat : Int) = 45 <;> (try omega)
   all_goals
    refine w_reg fun K hK => ?_; simp (disch := omega) only [↓wD, wU, simprocAttr, f0, f3, hc, hlt, a1, a2, a3, a4, a5]; refine hK _ _ ?_; clear hK K
    refine wf ?_
    refine w_skip ?_
    (with_reducible repeat first | apply q_n | apply q_e | apply q_r | apply bq_n | apply bq_e | apply bq_r | apply bq_o rfl)
    refine w_reg1 fun K hK => ?_; simp (disch := omega) only [↓wD, wU, simprocAttr, f3]; refine hK _ _ ?_; clear hK K
    (with_reducible repeat first | apply q_n | apply q_e | apply q_r | apply bq_n | apply bq_e | apply bq_r | apply bq_o rfl)
    exact ⟨s.size - (i + 1), by omega, rfl, (by simp only [wL, Nat.reduceBEq, f0]), i + 1, (by simp only [wL, Nat.reduceBEq]), by omega, fun j c' hj hc' => (by
     by_cases hji : j = i
     ·subst hji; rw [hc] at hc'; cases hc'; exact hk
     ·exact hkey j c' (by omega) hc'), rfl⟩
  | false =>
   rw [hk] at hk'
   simp only [Bool.false_eq_true, false_iff] at hk'
   by_cases a1 : (97 : Int) ≤ c.toNat <;> by_cases a2 : (c.toNat : Int) ≤ 122 <;> by_cases a3 : (48 : Int) ≤ c.toNat <;> by_cases a4 : (c.toNat : Int) ≤ 57 <;> by_cases a5 : (c.toNat : Int) = 45 <;> (try omega)
   all_goals
    refine w_reg fun K hK => ?_; simp (disch := omega) only [↓wD, wU, simprocAttr, f0, f3, hc, hlt, a1, a2, a3, a4, a5]; refine hK _ _ ?_; clear hK K
    refine wt ?_
    refine w_reg fun K hK => ?_; simp (disch := omega) only [↓wD, wU, simprocAttr]; refine hK _ _ ?_; clear hK K
    refine w_ret ?_; (with_reducible repeat first | apply q_n | apply q_e | apply q_r | apply bq_n | apply bq_e | apply bq_r | apply bq_o rfl); refine ret1 (by (try simp only [wL, Nat.reduceBEq]); rfl) ?_
    refine ⟨?_, rfl⟩
    have hm : c ∈ s.data.toList := by simpa using Array.mem_of_getElem? hc
    have : textB s = false := by
     cases hx : textB s with
     | false => rfl
     | true => unfold textB at hx; rw [List.all_eq_true] at hx; rw [hx c hm] at hk; cases hk
    rw [this, Bool.and_false]
 ·refine w_reg fun K hK => ?_; simp (disch := omega) only [↓wD, wU, simprocAttr, f0, f3, hlt]; refine hK _ _ ?_; clear hK K
  refine wf ?_
  refine w_exit ?_
  (with_reducible repeat first | apply q_n | apply q_e | apply q_r | apply bq_n | apply bq_e | apply bq_r | apply bq_o rfl)
  have ht : textB s = true := by
   unfold textB
   rw [List.all_eq_true]
   intro c hc
   obtain ⟨j, hj, e⟩ := List.getElem_of_mem hc
   have hj' : j < s.data.size := by simpa using hj
   have hsz : s.data.size = s.size := rfl
   exact hkey j c (by omega) (by rw [Array.getElem?_eq_getElem hj']; simpa using e)
  refine w_reg fun K hK => ?_; simp (disch := omega) only [↓wD, wU, simprocAttr, f0]; refine hK _ _ ?_; clear hK K
  refine w_ret ?_; (with_reducible repeat first | apply q_n | apply q_e | apply q_r | apply bq_n | apply bq_e | apply bq_r | apply bq_o rfl); refine ret1 (by (try simp only [wL, Nat.reduceBEq]); rfl) ?_
  rw [ht, Bool.and_true]
  exact ⟨rfl, rfl⟩
theorem Name14_cl {H : Hp} (n : Nm) : Cl Tryz.prog 129 [.agg #[.int .i64 n.client, .int .i64 n.num]] H fun r H' => r = .bool (nameB n) ∧ Ext H H' := by
 refine cl_of mixed c_watershedref14_Name (Nat.le_of_ble_eq_true rfl) ?_
 simp only [fwp, ir_watershedref14_Name, argF, Nat.reduceAdd]
 obtain ⟨c, n⟩ := n
 refine w_reg fun K hK => ?_; simp (disch := omega) only [↓wD, wU, simprocAttr]; refine hK _ _ ?_; clear hK K
 by_cases h1 : 1 ≤ c <;> by_cases h2 : c ≤ 8 <;> by_cases h3 : 1 ≤ n <;> by_cases h4 : n ≤ 1073741824
 all_goals
  refine w_reg fun K hK => ?_; simp (disch := omega) only [↓wD, wU, simprocAttr, h1, h2, h3, h4]; refine hK _ _ ?_; clear hK K
  refine w_ret ?_; (with_reducible repeat first | apply q_n | apply q_e | apply q_r | apply bq_n | apply bq_e | apply bq_r | apply bq_o rfl); refine ret1 (by (try simp only [wL, Nat.reduceBEq]); rfl) ?_
  refine ⟨by simp [nameB, h1, h2, h3, h4], ?_⟩
  repeat (first | exact Ext.refl _ | assumption | (refine Ext.trans ?_ (by assumption)) | refine Ext.push ?_ _ | refine Ext.putc ?_ (by first | omega | (simp only [Array.size_push, putc_size]; omega)) _ _)
theorem cut_iff (n : Int) : n = cutI n ↔ -1073741824 ≤ n ∧ n ≤ 1073741824 := by unfold cutI; omega
set_option maxHeartbeats 4000000 in
theorem one14_cl {H : Hp} {cs : List Value} {a : Ac} (ha : ElAc cs a) : Cl Tryz.prog 161 [.agg cs.toArray] H fun r H' => r = .bool (actB a) ∧ Ext H H' := by
 obtain ⟨rfl, hk8, hn64, hs1, hs2⟩ := ha
 obtain ⟨kind, key, value, num⟩ := a
 simp only at hk8 hn64 hs1 hs2 ⊢
 refine cl_of mixed c_watershedref14_one (Nat.le_of_ble_eq_true rfl) ?_
 simp only [fwp, ir_watershedref14_one, argF, Nat.reduceAdd]
 refine w_reg fun K hK => ?_; simp (disch := omega) only [↓wD, wU, simprocAttr]; refine hK _ _ ?_; clear hK K
 have hE0 : Ext H (H.push (.cells #[.int .u8 kind, .string key, .string value, .int .i64 num] 98)) := (Ext.refl _).push _
 have c0 := cell_new H [.int .u8 kind, .string key, .string value, .int .i64 num] 98 0
 have c1 := cell_new H [.int .u8 kind, .string key, .string value, .int .i64 num] 98 1
 have c2 := cell_new H [.int .u8 kind, .string key, .string value, .int .i64 num] 98 2
 have c3 := cell_new H [.int .u8 kind, .string key, .string value, .int .i64 num] 98 3
 simp only [List.getElem?_cons_zero, List.getElem?_cons_succ] at c0 c1 c2 c3
 generalize H.push (.cells #[.int .u8 kind, .string key, .string value, .int .i64 num] 98) = H0 at hE0 c0 c1 c2 c3 ⊢
 refine w_seq (w_seq ?_)
 refine w_reg fun K hK => ?_; simp (disch := omega) only [↓wD, wU, simprocAttr, c0]; refine hK _ _ ?_; clear hK K
 refine w_blk ?_
 by_cases k1 : kind = 1
 ·subst k1
  refine w_reg fun K hK => ?_; simp (disch := omega) only [↓wD, wU, simprocAttr]; refine hK _ _ ?_; clear hK K
  refine wt ?_
  refine w_seq ?_
  refine w_reg fun K hK => ?_
  simp (disch := omega) only [↓wD, wU, simprocAttr, c1]
  refine w_call (Key4_cl key hs1) ?_
  rintro _ _ ⟨rfl, rfl⟩
  cases hkk : isKey key with
  | false =>
   simp (disch := omega) only [↓wD, wU, simprocAttr]
   refine hK _ _ ?_
   clear hK K
   refine w_ret ?_; (with_reducible repeat first | apply q_n | apply q_e | apply q_r | apply bq_n | apply bq_e | apply bq_r | apply bq_o rfl); refine ret1 (by (try simp only [wL, Nat.reduceBEq]); rfl) ?_
   exact ⟨by simp [actB, hkk], hE0⟩
  | true =>
   by_cases hv : value = .empty
   ·by_cases hn : num = 0
    ·simp (disch := omega) only [↓wD, wU, simprocAttr, c2, c3, hv, hn]
     refine hK _ _ ?_
     clear hK K
     refine w_ret ?_; (with_reducible repeat first | apply q_n | apply q_e | apply q_r | apply bq_n | apply bq_e | apply bq_r | apply bq_o rfl); refine ret1 (by (try simp only [wL, Nat.reduceBEq]); rfl) ?_
     exact ⟨by simp [actB, hkk, hv, hn], hE0⟩
    ·simp (disch := omega) only [↓wD, wU, simprocAttr, c2, c3, hv, hn]
     refine hK _ _ ?_
     clear hK K
     refine w_ret ?_; (with_reducible repeat first | apply q_n | apply q_e | apply q_r | apply bq_n | apply bq_e | apply bq_r | apply bq_o rfl); refine ret1 (by (try simp only [wL, Nat.reduceBEq]); rfl) ?_
     exact ⟨by simp [actB, hkk, hv, hn], hE0⟩
   ·simp (disch := omega) only [↓wD, wU, simprocAttr, c2, c3, hv]
    refine hK _ _ ?_
    clear hK K
    refine w_ret ?_; (with_reducible repeat first | apply q_n | apply q_e | apply q_r | apply bq_n | apply bq_e | apply bq_r | apply bq_o rfl); refine ret1 (by (try simp only [wL, Nat.reduceBEq]); rfl) ?_
    exact ⟨by simp [actB, hkk, hv], hE0⟩
 refine w_reg fun K hK => ?_; simp (disch := omega) only [↓wD, wU, simprocAttr, k1]; refine hK _ _ ?_; clear hK K
 refine wf ?_
 refine w_seq ?_
 by_cases k2 : kind = 2
 ·subst k2
  refine w_reg fun K hK => ?_; simp (disch := omega) only [↓wD, wU, simprocAttr]; refine hK _ _ ?_; clear hK K
  refine wt ?_
  refine w_seq ?_
  refine w_reg fun K hK => ?_
  simp (disch := omega) only [↓wD, wU, simprocAttr, c1]
  refine w_call (Key4_cl key hs1) ?_
  rintro _ _ ⟨rfl, rfl⟩
  cases hkk : isKey key with
  | false =>
   simp (disch := omega) only [↓wD, wU, simprocAttr]
   refine hK _ _ ?_
   clear hK K
   refine w_ret ?_; (with_reducible repeat first | apply q_n | apply q_e | apply q_r | apply bq_n | apply bq_e | apply bq_r | apply bq_o rfl); refine ret1 (by (try simp only [wL, Nat.reduceBEq]); rfl) ?_
   exact ⟨by simp [actB, hkk], hE0⟩
  | true =>
   simp (disch := omega) only [↓wD, wU, simprocAttr, c2]
   refine w_call (value14_cl value hs2) ?_
   rintro _ _ ⟨rfl, rfl⟩
   cases hv : (decide ((value.size : Int) ≤ 20) && textB value) with
   | false =>
    simp (disch := omega) only [↓wD, wU, simprocAttr, c3, hv]
    refine hK _ _ ?_
    clear hK K
    refine w_ret ?_; (with_reducible repeat first | apply q_n | apply q_e | apply q_r | apply bq_n | apply bq_e | apply bq_r | apply bq_o rfl); refine ret1 (by (try simp only [wL, Nat.reduceBEq]); rfl) ?_
    exact ⟨by simp only [actB, hkk, hv]; simp, hE0⟩
   | true =>
    by_cases hn : num = 0
    ·simp (disch := omega) only [↓wD, wU, simprocAttr, c3, hv, hn]
     refine hK _ _ ?_
     clear hK K
     refine w_ret ?_; (with_reducible repeat first | apply q_n | apply q_e | apply q_r | apply bq_n | apply bq_e | apply bq_r | apply bq_o rfl); refine ret1 (by (try simp only [wL, Nat.reduceBEq]); rfl) ?_
     exact ⟨by simp only [actB, hkk, hv]; simp [hn], hE0⟩
    ·simp (disch := omega) only [↓wD, wU, simprocAttr, c3, hv, hn]
     refine hK _ _ ?_
     clear hK K
     refine w_ret ?_; (with_reducible repeat first | apply q_n | apply q_e | apply q_r | apply bq_n | apply bq_e | apply bq_r | apply bq_o rfl); refine ret1 (by (try simp only [wL, Nat.reduceBEq]); rfl) ?_
     exact ⟨by simp only [actB, hkk, hv]; simp [hn], hE0⟩
 refine w_reg fun K hK => ?_; simp (disch := omega) only [↓wD, wU, simprocAttr, k2]; refine hK _ _ ?_; clear hK K
 refine wf ?_
 refine w_seq ?_
 by_cases k3 : kind = 3
 ·subst k3
  refine w_reg fun K hK => ?_; simp (disch := omega) only [↓wD, wU, simprocAttr]; refine hK _ _ ?_; clear hK K
  refine wt ?_
  refine w_seq ?_
  refine w_reg fun K hK => ?_
  simp (disch := omega) only [↓wD, wU, simprocAttr, c1]
  refine w_call (Key4_cl key hs1) ?_
  rintro _ _ ⟨rfl, rfl⟩
  cases hkk : isKey key with
  | false =>
   simp (disch := omega) only [↓wD, wU, simprocAttr]
   refine hK _ _ ?_
   clear hK K
   refine w_ret ?_; (with_reducible repeat first | apply q_n | apply q_e | apply q_r | apply bq_n | apply bq_e | apply bq_r | apply bq_o rfl); refine ret1 (by (try simp only [wL, Nat.reduceBEq]); rfl) ?_
   exact ⟨by simp [actB, hkk], hE0⟩
  | true =>
   by_cases hv : value = .empty
   ·by_cases n1 : (-1073741824 : Int) ≤ num <;> by_cases n2 : num ≤ 1073741824
    all_goals
     simp (disch := omega) only [↓wD, wU, simprocAttr, c2, c3, hv, n1, n2]
     refine hK _ _ ?_
     clear hK K
     refine w_ret ?_; (with_reducible repeat first | apply q_n | apply q_e | apply q_r | apply bq_n | apply bq_e | apply bq_r | apply bq_o rfl); refine ret1 (by (try simp only [wL, Nat.reduceBEq]); rfl) ?_
     exact ⟨by simp [actB, hkk, hv, cut_iff, n1, n2], hE0⟩
   ·simp (disch := omega) only [↓wD, wU, simprocAttr, c2, c3, hv]
    refine hK _ _ ?_
    clear hK K
    refine w_ret ?_; (with_reducible repeat first | apply q_n | apply q_e | apply q_r | apply bq_n | apply bq_e | apply bq_r | apply bq_o rfl); refine ret1 (by (try simp only [wL, Nat.reduceBEq]); rfl) ?_
    exact ⟨by simp [actB, hkk, hv], hE0⟩
 refine w_reg fun K hK => ?_; simp (disch := omega) only [↓wD, wU, simprocAttr, k3]; refine hK _ _ ?_; clear hK K
 refine wf ?_
 refine w_skip ?_
 (with_reducible repeat first | apply q_n | apply q_e | apply q_r | apply bq_n | apply bq_e | apply bq_r | apply bq_o rfl)
 refine w_reg fun K hK => ?_; simp (disch := omega) only [↓wD, wU, simprocAttr]; refine hK _ _ ?_; clear hK K
 refine w_ret ?_; (with_reducible repeat first | apply q_n | apply q_e | apply q_r | apply bq_n | apply bq_e | apply bq_r | apply bq_o rfl); refine ret1 (by (try simp only [wL, Nat.reduceBEq]); rfl) ?_
 exact ⟨by simp [actB, k1, k2, k3], hE0⟩
end Go.WK
/-
 The reference's rows of acts; its holds.
-/
namespace Go.WK
open Go Go.Proofs

theorem all_take {α : Type} {q : α → Bool} {l : List α} {i : Nat} (hi : i < l.length) (h : ∀ j (hj : j < l.length), j < i → q l[j] = true) (hq : q l[i] = true) : ∀ j (hj : j < l.length), j < i + 1 → q l[j] = true := fun j hj h' => by
 by_cases e : j = i
 ·subst e; exact hq
 ·exact h j hj (by omega)
theorem all_get {α : Type} {q : α → Bool} {l : List α} (h : ∀ j (hj : j < l.length), q l[j] = true) : l.all q = true :=
 List.all_eq_true.2 fun x hx => by
  obtain ⟨j, hj, rfl⟩ := List.mem_iff_getElem.1 hx
  exact h j hj
theorem all_bad {α : Type} {q : α → Bool} {l : List α} {i : Nat} (hi : i < l.length) (h : q l[i] = false) : l.all q = false :=
 List.all_eq_false.2 ⟨l[i], List.getElem_mem hi, by simp [h]⟩
theorem Right14_cl {S : Nat → Prop} {H : Hp} {v : Value} {l : List Ac} (hv : AcSl S H v l) : Cl Tryz.prog 130 [v] H fun r H' => r = .bool (actsB l) ∧ Ext H H' := by
 refine cl_of mixed c_watershedref14_Right (Nat.le_of_ble_eq_true rfl) ?_
 simp only [fwp, ir_watershedref14_Right, argF, Nat.reduceAdd]
 obtain ⟨a, c, rfl, hc, hl, hel⟩ := SlP.open hv
 clear hv
 refine w_reg fun K hK => ?_; simp (disch := omega) only [↓wD, wU, simprocAttr]; refine hK _ _ ?_; clear hK K
 refine w_seq (w_seq ?_)
 refine w_reg fun K hK => ?_; simp (disch := omega) only [↓wD, wU, simprocAttr]; refine hK _ _ ?_; clear hK K
 refine w_blk (w_loop (fun n f H' => Ext H H' ∧ f 0 = .slice a l.length c ∧ ∃ (i : Nat), f 3 = .int .i64 i ∧ i ≤ l.length ∧ (∀ j (hj : j < l.length), j < i → actB l[j] = true) ∧ n = l.length - i) _ ⟨Ext.refl _, rfl, 0, rfl, Nat.zero_le _, fun j hj h => by omega, rfl⟩ ?_)
 rintro n f H' ⟨hE, f0, i, f3, hi, hall, rfl⟩
 refine w_seq (w_seq ?_)
 by_cases hlt : i < l.length
 ·obtain ⟨b, o, rfl, hS, cs, hcs, he⟩ := hel i hlt
  have hcs1 := rdn_ext hE hcs
  refine w_reg fun K hK => ?_; simp (disch := omega) only [↓wD, wU, simprocAttr, f0, f3, hlt]; refine hK _ _ ?_; clear hK K
  refine wt ?_
  refine w_skip ?_
  (with_reducible repeat first | apply q_n | apply q_e | apply q_r | apply bq_n | apply bq_e | apply bq_r | apply bq_o rfl)
  refine w_seq (w_blk ?_)
  refine w_seq ?_
  refine w_reg fun K hK => ?_
  simp (disch := omega) only [↓wD, wU, simprocAttr, f0, f3, hlt, hcs1]
  refine w_call (one14_cl he) ?_
  rintro _ H2 ⟨rfl, hE2⟩
  cases hq : actB l[i] with
  | true =>
   simp (disch := omega) only [↓wD, wU, simprocAttr]
   refine hK _ _ ?_
   clear hK K
   refine wf ?_
   refine w_skip ?_
   (with_reducible repeat first | apply q_n | apply q_e | apply q_r | apply bq_n | apply bq_e | apply bq_r | apply bq_o rfl)
   refine w_reg1 fun K hK => ?_; simp (disch := omega) only [↓wD, wU, simprocAttr, f3]; refine hK _ _ ?_; clear hK K
   (with_reducible repeat first | apply q_n | apply q_e | apply q_r | apply bq_n | apply bq_e | apply bq_r | apply bq_o rfl)
   exact ⟨l.length - (i + 1), by omega, hE.trans hE2, (by simp only [wL, Nat.reduceBEq, f0]), i + 1, (by simp only [wL, Nat.reduceBEq]), by omega, all_take hlt hall hq, rfl⟩
  | false =>
   simp (disch := omega) only [↓wD, wU, simprocAttr]
   refine hK _ _ ?_
   clear hK K
   refine wt ?_
   refine w_reg fun K hK => ?_; simp (disch := omega) only [↓wD, wU, simprocAttr]; refine hK _ _ ?_; clear hK K
   refine w_ret ?_; (with_reducible repeat first | apply q_n | apply q_e | apply q_r | apply bq_n | apply bq_e | apply bq_r | apply bq_o rfl); refine ret1 (by (try simp only [wL, Nat.reduceBEq]); rfl) ?_
   refine ⟨?_, hE.trans hE2⟩
   rw [actsB, all_bad hlt hq, Bool.and_false]
 ·refine w_reg fun K hK => ?_; simp (disch := omega) only [↓wD, wU, simprocAttr, f0, f3, hlt]; refine hK _ _ ?_; clear hK K
  refine wf ?_
  refine w_exit ?_
  (with_reducible repeat first | apply q_n | apply q_e | apply q_r | apply bq_n | apply bq_e | apply bq_r | apply bq_o rfl)
  have ha : l.all actB = true := all_get fun j hj => hall j hj (by omega)
  have e : actsB l = (decide (1 ≤ l.length) && decide (l.length ≤ 6)) := by rw [actsB, ha, Bool.and_true]
  by_cases h1 : (1 : Int) ≤ (l.length : Int) <;> by_cases h2 : (l.length : Int) ≤ 6
  all_goals
   have n1 : decide (1 ≤ l.length) = decide ((1 : Int) ≤ (l.length : Int)) := by congr 1; simp; omega
   have n2 : decide (l.length ≤ 6) = decide ((l.length : Int) ≤ 6) := by congr 1; simp; omega
   refine w_reg fun K hK => ?_; simp (disch := omega) only [↓wD, wU, simprocAttr, f0, h1, h2]; refine hK _ _ ?_; clear hK K
   refine w_ret ?_; (with_reducible repeat first | apply q_n | apply q_e | apply q_r | apply bq_n | apply bq_e | apply bq_r | apply bq_o rfl); refine ret1 (by (try simp only [wL, Nat.reduceBEq]); rfl) ?_
   refine ⟨?_, hE⟩
   rw [e, n1, n2]
   simp [h1, h2]
theorem countP_take {α : Type} {q : α → Bool} {l : List α} {i : Nat} (hi : i < l.length) : (l.take (i + 1)).countP q = (l.take i).countP q + if q l[i] = true then 1 else 0 := by
 rw [List.take_add_one, List.getElem?_eq_getElem hi, List.countP_append]
 simp
theorem any_take {α : Type} {q : α → Bool} {l : List α} {i : Nat} (hi : i < l.length) : (l.take (i + 1)).any q = ((l.take i).any q || q l[i]) := by
 rw [List.take_add_one, List.getElem?_eq_getElem hi, List.any_append]
 simp
set_option maxHeartbeats 4000000 in
theorem one16_cl {S : Nat → Prop} {H : Hp} {cs : List Value} {h : Hd} (he : ElHd S H cs h) : Cl Tryz.prog 72 [.agg cs.toArray] H fun r H' => r = .bool (rightB h) ∧ Ext H H' := by
 refine cl_of mixed c_watershedref16_one (Nat.le_of_ble_eq_true rfl) ?_
 simp only [fwp, ir_watershedref16_one, argF, Nat.reduceAdd]
 obtain ⟨va, vr, rfl, ha, hr, hnm, hsk, hsv⟩ := he
 obtain ⟨aa, ac, rfl, hac, hal, hael⟩ := SlP.open ha
 obtain ⟨ra, rc, rfl, hrc, hrl, hrel⟩ := SlP.open hr
 refine w_reg fun K hK => ?_; simp (disch := omega) only [↓wD, wU, simprocAttr]; refine hK _ _ ?_; clear hK K
 generalize hH0 : H.push (.cells #[.string h.key, .int .i64 h.name.client, .int .i64 h.name.num, .slice aa h.acts.length ac, .slice ra h.reads.length rc, .bool h.put, .string h.value] 35) = H0
 have hE0 : Ext H H0 := by subst hH0; exact (Ext.refl _).push _
 have hc : rdn H0 H.size 0 7 = some [.string h.key, .int .i64 h.name.client, .int .i64 h.name.num, .slice aa h.acts.length ac, .slice ra h.reads.length rc, .bool h.put, .string h.value] := by subst hH0; exact rdn_new H _ 35 0 7 (Nat.le_refl _)
 clear hH0
 have hb0 := cell_lt (rdn7 hc).1
 have hn2 : rdn H0 H.size 1 2 = some [.int .i64 h.name.client, .int .i64 h.name.num] := by
  obtain ⟨_, c1, c2, _⟩ := rdn7 hc
  refine rdn_of rfl fun j hj => ?_
  match j, hj with
  | 0, _ => simpa using c1
  | 1, _ => simpa using c2
 unfold Sz big at hsk hsv
 have fls : ∀ {x : Bool}, x = false → (x = rightB h) → rightB h = false := fun h1 h2 => h2 ▸ h1
 refine w_cut (fun g H' => Ext H0 H' ∧ g 1 = .pointer (some ⟨H.size, 0, none⟩) ∧ nameB h.name = true ∧ actsB h.acts = true ∧ decide ((h.value.size : Int) ≤ 20) = true ∧ (h.put || decide (h.value = .empty)) = true) ?_ ?_
 ·refine w_seq ?_
  refine w_reg fun K hK => ?_
  simp (disch := omega) only [↓wD, wU, simprocAttr, hn2]
  refine w_call (Name14_cl h.name) ?_
  rintro _ H1 ⟨rfl, hE1⟩
  have hE01 := hE0.trans hE1
  have hc1 := rdn_ext hE1 hc
  obtain ⟨c0, c1, c2, c3, c4, c5, c6⟩ := rdn7 hc1
  simp only [Nat.zero_add] at c0 c1 c2 c3 c4 c5 c6
  cases hq1 : nameB h.name with
  | false =>
   simp (disch := omega) only [↓wD, wU, simprocAttr]
   refine hK _ _ ?_
   clear hK K
   refine wt ?_
   refine w_reg fun K hK => ?_; simp (disch := omega) only [↓wD, wU, simprocAttr]; refine hK _ _ ?_; clear hK K
   refine w_ret ?_; (with_reducible repeat first | apply q_n | apply q_e | apply q_r | apply bq_n | apply bq_e | apply bq_r | apply bq_o rfl); refine ret1 (by (try simp only [wL, Nat.reduceBEq]); rfl) ?_
   exact ⟨by simp [rightB, hq1], hE01⟩
  | true =>
  simp (disch := omega) only [↓wD, wU, simprocAttr, c3]
  refine w_call (Right14_cl (ha.ext hE01)) ?_
  rintro _ H2 ⟨rfl, hE2⟩
  have hE02 := hE01.trans hE2
  have hc2 := rdn_ext hE2 hc1
  obtain ⟨c0, c1, c2, c3, c4, c5, c6⟩ := rdn7 hc2
  simp only [Nat.zero_add] at c0 c1 c2 c3 c4 c5 c6
  cases hq2 : actsB h.acts with
  | false =>
   simp (disch := omega) only [↓wD, wU, simprocAttr]
   refine hK _ _ ?_
   clear hK K
   refine wt ?_
   refine w_reg fun K hK => ?_; simp (disch := omega) only [↓wD, wU, simprocAttr]; refine hK _ _ ?_; clear hK K
   refine w_ret ?_; (with_reducible repeat first | apply q_n | apply q_e | apply q_r | apply bq_n | apply bq_e | apply bq_r | apply bq_o rfl); refine ret1 (by (try simp only [wL, Nat.reduceBEq]); rfl) ?_
   exact ⟨by simp [rightB, hq2], hE02⟩
  | true =>
  by_cases hv : (20 : Int) < h.value.size
  ·simp (disch := omega) only [↓wD, wU, simprocAttr, c6, hv]
   refine hK _ _ ?_
   clear hK K
   refine wt ?_
   refine w_reg fun K hK => ?_; simp (disch := omega) only [↓wD, wU, simprocAttr]; refine hK _ _ ?_; clear hK K
   refine w_ret ?_; (with_reducible repeat first | apply q_n | apply q_e | apply q_r | apply bq_n | apply bq_e | apply bq_r | apply bq_o rfl); refine ret1 (by (try simp only [wL, Nat.reduceBEq]); rfl) ?_
   have : ¬ (h.value.size : Int) ≤ 20 := by omega
   exact ⟨by simp only [rightB, this]; simp, hE02⟩
  have hq3 : (h.put || decide (h.value = .empty)) = true ∨ (h.put || decide (h.value = .empty)) = false := by cases (h.put || decide (h.value = .empty)) <;> simp
  have vle : decide ((h.value.size : Int) ≤ 20) = true := by simp; omega
  rcases hq3 with hq3 | hq3
  case inr =>
   simp only [Bool.or_eq_false_iff, decide_eq_false_iff_not] at hq3
   simp (disch := omega) only [↓wD, wU, simprocAttr, c5, c6, hv, hq3.1, hq3.2]
   refine hK _ _ ?_
   clear hK K
   refine wt ?_
   refine w_reg fun K hK => ?_; simp (disch := omega) only [↓wD, wU, simprocAttr]; refine hK _ _ ?_; clear hK K
   refine w_ret ?_; (with_reducible repeat first | apply q_n | apply q_e | apply q_r | apply bq_n | apply bq_e | apply bq_r | apply bq_o rfl); refine ret1 (by (try simp only [wL, Nat.reduceBEq]); rfl) ?_
   exact ⟨by simp [rightB, hq3.1, hq3.2], hE02⟩
  cases hput : h.put with
  | true =>
   simp (disch := omega) only [↓wD, wU, simprocAttr, c5, c6, hv, hput]
   refine hK _ _ ?_
   clear hK K
   refine wf ?_
   refine w_skip ?_
   (with_reducible repeat first | apply q_n | apply q_e | apply q_r | apply bq_n | apply bq_e | apply bq_r | apply bq_o rfl)
   exact ⟨hE1.trans hE2, (by simp only [wL, Nat.reduceBEq]), hq1, hq2, vle, hq3⟩
  | false =>
   have hval : h.value = .empty := by rw [hput] at hq3; simpa using hq3
   have hv0 : ((20 : Int) < ByteArray.empty.size) = False := by simp
   simp (disch := omega) only [↓wD, wU, simprocAttr, c5, c6, hv, hv0, hput, hval]
   refine hK _ _ ?_
   clear hK K
   refine wf ?_
   refine w_skip ?_
   (with_reducible repeat first | apply q_n | apply q_e | apply q_r | apply bq_n | apply bq_e | apply bq_r | apply bq_o rfl)
   exact ⟨hE1.trans hE2, (by simp only [wL, Nat.reduceBEq]), hq1, hq2, vle, hq3⟩
 rintro f H1 ⟨hE1, f1, hq1, hq2, vle, hq3⟩
 have hE01 := hE0.trans hE1
 have hc1 := rdn_ext hE1 hc
 have eR : rightB h = (h.acts.all (fun a => decide (a.key = h.key)) && !h.reads.any (readBad h.key) && decide (h.reads.length = h.acts.countP fun a => !decide (a.kind = 2)) && decide (h.put = h.acts.any fun a => !decide (a.kind = 1))) := by
  unfold rightB
  rw [hq1, hq2, vle, hq3]
  simp only [Bool.and_true]
 refine w_reg fun K hK => ?_; simp (disch := omega) only [↓wD, wU, simprocAttr]; refine hK _ _ ?_; clear hK K
 refine w_seq (w_seq ?_)
 refine w_reg fun K hK => ?_; simp (disch := omega) only [↓wD, wU, simprocAttr]; refine hK _ _ ?_; clear hK K
 obtain ⟨c0, c1, c2, c3, c4, c5, c6⟩ := rdn7 hc1
 simp only [Nat.zero_add] at c0 c1 c2 c3 c4 c5 c6
 refine w_blk (w_loop (fun n f H' => H1 = H' ∧ f 1 = .pointer (some ⟨H.size, 0, none⟩) ∧ ∃ (i : Nat), f 5 = .int .i64 i ∧ i ≤ h.acts.length ∧ f 3 = .int .i64 ((h.acts.take i).countP fun a => !decide (a.kind = 2)) ∧ f 4 = .bool ((h.acts.take i).any fun a => !decide (a.kind = 1)) ∧ (∀ j (hj : j < h.acts.length), j < i → (fun a : Ac => decide (a.key = h.key)) h.acts[j] = true) ∧ n = h.acts.length - i) _ ⟨rfl, (by simp only [wL, Nat.reduceBEq, f1]), 0, (by simp only [wL, Nat.reduceBEq]; rfl), Nat.zero_le _, (by simp only [wL, Nat.reduceBEq]; rfl), (by simp only [wL, Nat.reduceBEq]; rfl), fun j hj h => by omega, rfl⟩ ?_)
 clear f1 f
 rintro n f H' ⟨rfl, f1, i, f5, hi, f3, f4, hall, rfl⟩
 refine w_seq (w_seq ?_)
 by_cases hlt : i < h.acts.length
 ·obtain ⟨b, o, rfl, hS, cs, hcs, e, -, -, hs1, hs2⟩ := hael i hlt
  rw [e] at hcs
  obtain ⟨d0, d1, d2, d3⟩ := rdn4 (rdn_ext hE01 hcs)
  refine w_reg fun K hK => ?_; simp (disch := omega) only [↓wD, wU, simprocAttr, f1, f5, c3, hlt]; refine hK _ _ ?_; clear hK K
  refine wt ?_
  refine w_skip ?_
  (with_reducible repeat first | apply q_n | apply q_e | apply q_r | apply bq_n | apply bq_e | apply bq_r | apply bq_o rfl)
  refine w_seq (w_blk ?_)
  refine w_seq (w_seq ?_)
  have hct := countP_take (q := fun a : Ac => !decide (a.kind = 2)) hlt
  have han := any_take (q := fun a : Ac => !decide (a.kind = 1)) hlt
  have hcle : ((h.acts.take i).countP fun a => !decide (a.kind = 2)) ≤ h.acts.length := Nat.le_trans List.countP_le_length (by rw [List.length_take]; omega)
  by_cases hkey : h.acts[i].key = h.key
  ·refine w_reg fun K hK => ?_; simp (disch := omega) only [↓wD, wU, simprocAttr, f1, f5, c0, c3, d1, hlt, hkey]; refine hK _ _ ?_; clear hK K
   refine wf ?_
   refine w_skip ?_
   (with_reducible repeat first | apply q_n | apply q_e | apply q_r | apply bq_n | apply bq_e | apply bq_r | apply bq_o rfl)
   refine w_cut (fun g H' => H1 = H' ∧ g 1 = .pointer (some ⟨H.size, 0, none⟩) ∧ g 5 = .int .i64 i ∧ g 4 = .bool ((h.acts.take i).any fun a => !decide (a.kind = 1)) ∧ g 3 = .int .i64 ((h.acts.take (i + 1)).countP fun a => !decide (a.kind = 2))) ?_ ?_
   ·refine w_seq ?_
    by_cases hk2 : h.acts[i].kind = 2
    ·rw [if_neg (by simp [hk2])] at hct
     refine w_reg fun K hK => ?_; simp (disch := omega) only [↓wD, wU, simprocAttr, f1, f5, c3, d0, hlt, hk2]; refine hK _ _ ?_; clear hK K
     refine wf ?_
     refine w_skip ?_
     (with_reducible repeat first | apply q_n | apply q_e | apply q_r | apply bq_n | apply bq_e | apply bq_r | apply bq_o rfl)
     exact ⟨rfl, (by simp only [wL, Nat.reduceBEq, f1]), (by simp only [wL, Nat.reduceBEq, f5]), (by simp only [wL, Nat.reduceBEq, f4]), by simp only [wL, Nat.reduceBEq, f3]; rw [hct, Nat.add_zero]⟩
    ·rw [if_pos (by simp [hk2])] at hct
     refine w_reg fun K hK => ?_; simp (disch := omega) only [↓wD, wU, simprocAttr, f1, f5, c3, d0, hlt, hk2]; refine hK _ _ ?_; clear hK K
     refine wt ?_
     refine w_reg1 fun K hK => ?_; simp (disch := omega) only [↓wD, wU, simprocAttr, f3]; refine hK _ _ ?_; clear hK K
     (with_reducible repeat first | apply q_n | apply q_e | apply q_r | apply bq_n | apply bq_e | apply bq_r | apply bq_o rfl)
     exact ⟨rfl, (by simp only [wL, Nat.reduceBEq, f1]), (by simp only [wL, Nat.reduceBEq, f5]), (by simp only [wL, Nat.reduceBEq, f4]), by simp only [wL, Nat.reduceBEq]; rw [hct]⟩
   ·clear f1 f3 f4 f5 f
    rintro f H' ⟨rfl, f1, f5, f4, f3⟩
    cases hany : (h.acts.take i).any fun a => !decide (a.kind = 1) with
    | true =>
     rw [hany, Bool.true_or] at han
     rw [hany] at f4
     refine w_reg1 fun K hK => ?_; simp (disch := omega) only [↓wD, wU, simprocAttr, f4]; refine hK _ _ ?_; clear hK K
     (with_reducible repeat first | apply q_n | apply q_e | apply q_r | apply bq_n | apply bq_e | apply bq_r | apply bq_o rfl)
     refine w_reg1 fun K hK => ?_; simp (disch := omega) only [↓wD, wU, simprocAttr, f5]; refine hK _ _ ?_; clear hK K
     (with_reducible repeat first | apply q_n | apply q_e | apply q_r | apply bq_n | apply bq_e | apply bq_r | apply bq_o rfl)
     exact ⟨h.acts.length - (i + 1), by omega, rfl, (by simp only [wL, Nat.reduceBEq, f1]), i + 1, (by simp only [wL, Nat.reduceBEq]), by omega, (by simp only [wL, Nat.reduceBEq, f3]), by rw [han]; simp only [wL, Nat.reduceBEq], all_take (q := fun a : Ac => decide (a.key = h.key)) hlt hall (decide_eq_true hkey), rfl⟩
    | false =>
     rw [hany, Bool.false_or] at han
     rw [hany] at f4
     by_cases hk1 : h.acts[i].kind = 1
     ·rw [show (!decide (h.acts[i].kind = 1)) = false by simp [hk1]] at han
      refine w_reg1 fun K hK => ?_; simp (disch := omega) only [↓wD, wU, simprocAttr, f1, f4, f5, c3, d0, hlt, hk1]; refine hK _ _ ?_; clear hK K
      (with_reducible repeat first | apply q_n | apply q_e | apply q_r | apply bq_n | apply bq_e | apply bq_r | apply bq_o rfl)
      refine w_reg1 fun K hK => ?_; simp (disch := omega) only [↓wD, wU, simprocAttr, f5]; refine hK _ _ ?_; clear hK K
      (with_reducible repeat first | apply q_n | apply q_e | apply q_r | apply bq_n | apply bq_e | apply bq_r | apply bq_o rfl)
      exact ⟨h.acts.length - (i + 1), by omega, rfl, (by simp only [wL, Nat.reduceBEq, f1]), i + 1, (by simp only [wL, Nat.reduceBEq]), by omega, (by simp only [wL, Nat.reduceBEq, f3]), by rw [han]; simp only [wL, Nat.reduceBEq], all_take (q := fun a : Ac => decide (a.key = h.key)) hlt hall (decide_eq_true hkey), rfl⟩
     ·rw [show (!decide (h.acts[i].kind = 1)) = true by simp [hk1]] at han
      refine w_reg1 fun K hK => ?_; simp (disch := omega) only [↓wD, wU, simprocAttr, f1, f4, f5, c3, d0, hlt, hk1]; refine hK _ _ ?_; clear hK K
      (with_reducible repeat first | apply q_n | apply q_e | apply q_r | apply bq_n | apply bq_e | apply bq_r | apply bq_o rfl)
      refine w_reg1 fun K hK => ?_; simp (disch := omega) only [↓wD, wU, simprocAttr, f5]; refine hK _ _ ?_; clear hK K
      (with_reducible repeat first | apply q_n | apply q_e | apply q_r | apply bq_n | apply bq_e | apply bq_r | apply bq_o rfl)
      exact ⟨h.acts.length - (i + 1), by omega, rfl, (by simp only [wL, Nat.reduceBEq, f1]), i + 1, (by simp only [wL, Nat.reduceBEq]), by omega, (by simp only [wL, Nat.reduceBEq, f3]), by rw [han]; simp only [wL, Nat.reduceBEq], all_take (q := fun a : Ac => decide (a.key = h.key)) hlt hall (decide_eq_true hkey), rfl⟩
  ·refine w_reg fun K hK => ?_; simp (disch := omega) only [↓wD, wU, simprocAttr, f1, f5, c0, c3, d1, hlt, hkey]; refine hK _ _ ?_; clear hK K
   refine wt ?_
   refine w_reg fun K hK => ?_; simp (disch := omega) only [↓wD, wU, simprocAttr]; refine hK _ _ ?_; clear hK K
   refine w_ret ?_; (with_reducible repeat first | apply q_n | apply q_e | apply q_r | apply bq_n | apply bq_e | apply bq_r | apply bq_o rfl); refine ret1 (by (try simp only [wL, Nat.reduceBEq]); rfl) ?_
   refine ⟨?_, hE01⟩
   rw [eR, all_bad hlt (by simp [hkey])]
   rfl
 ·refine w_reg fun K hK => ?_; simp (disch := omega) only [↓wD, wU, simprocAttr, f1, f5, c3, hlt]; refine hK _ _ ?_; clear hK K
  refine wf ?_
  refine w_exit ?_
  (with_reducible repeat first | apply q_n | apply q_e | apply q_r | apply bq_n | apply bq_e | apply bq_r | apply bq_o rfl)
  have hact : h.acts.all (fun a => decide (a.key = h.key)) = true := all_get fun j hj => hall j hj (by omega)
  rw [List.take_of_length_le (l := h.acts) (by omega)] at f3 f4
  have hcle : (h.acts.countP fun a => !decide (a.kind = 2)) ≤ h.acts.length := List.countP_le_length
  refine w_seq (w_seq ?_)
  refine w_reg fun K hK => ?_; simp (disch := omega) only [↓wD, wU, simprocAttr]; refine hK _ _ ?_; clear hK K
  refine w_blk (w_loop (fun n f H' => Ext H1 H' ∧ f 1 = .pointer (some ⟨H.size, 0, none⟩) ∧ f 3 = .int .i64 (h.acts.countP fun a => !decide (a.kind = 2)) ∧ f 4 = .bool (h.acts.any fun a => !decide (a.kind = 1)) ∧ ∃ (k : Nat), f 6 = .int .i64 k ∧ k ≤ h.reads.length ∧ (∀ j (hj : j < h.reads.length), j < k → readBad h.key h.reads[j] = false) ∧ n = h.reads.length - k) _ ⟨Ext.refl _, (by simp only [wL, Nat.reduceBEq, f1]), (by simp only [wL, Nat.reduceBEq, f3]), (by simp only [wL, Nat.reduceBEq, f4]), 0, (by simp only [wL, Nat.reduceBEq]; rfl), Nat.zero_le _, fun j hj h => by omega, rfl⟩ ?_)
  clear f1 f3 f4 f5 f
  rintro n f H' ⟨hE2, f1, f3, f4, k, f6, hk, hbad, rfl⟩
  have hE02 := hE01.trans hE2
  obtain ⟨e0, e1, e2, e3, e4, e5, e6⟩ := rdn7 (rdn_ext hE2 hc1)
  simp only [Nat.zero_add] at e0 e1 e2 e3 e4 e5 e6
  refine w_seq (w_seq ?_)
  by_cases hlk : k < h.reads.length
  ·obtain ⟨b, o, rfl, hS, cs, hcs, e, hs1, hs2⟩ := hrel k hlk
   rw [e] at hcs
   have hcs2 := rdn_ext hE02 hcs
   refine w_reg fun K hK => ?_; simp (disch := omega) only [↓wD, wU, simprocAttr, f1, f6, e4, hlk]; refine hK _ _ ?_; clear hK K
   refine wt ?_
   refine w_skip ?_
   (with_reducible repeat first | apply q_n | apply q_e | apply q_r | apply bq_n | apply bq_e | apply bq_r | apply bq_o rfl)
   refine w_seq (w_blk ?_)
   refine w_reg fun K hK => ?_; simp (disch := omega) only [↓wD, wU, simprocAttr, f1, f6, e4, hlk, hcs2]; refine hK _ _ ?_; clear hK K
   have hE3 : Ext H' (H'.push (.cells #[.string h.reads[k].key, .bool h.reads[k].is, .string h.reads[k].value] 100)) := (Ext.refl _).push _
   have hE03 := hE02.trans hE3
   have hne : (H.size = H'.size) = False := eq_false (by have := cell_lt e0; omega)
   have badEnd : readBad h.key h.reads[k] = true → rightB h = false := fun hb => by
    have : h.reads.any (readBad h.key) = true := List.any_eq_true.2 ⟨_, List.getElem_mem hlk, hb⟩
    rw [eR, this]
    simp
   refine w_seq ?_
   by_cases k1 : h.reads[k].key = h.key
   case neg =>
    refine w_reg fun K hK => ?_; simp (disch := omega) only [↓wD, wU, simprocAttr, f1, hne, e0, k1]; refine hK _ _ ?_; clear hK K
    refine wt ?_
    refine w_reg fun K hK => ?_; simp (disch := omega) only [↓wD, wU, simprocAttr]; refine hK _ _ ?_; clear hK K
    refine w_ret ?_; (with_reducible repeat first | apply q_n | apply q_e | apply q_r | apply bq_n | apply bq_e | apply bq_r | apply bq_o rfl); refine ret1 (by (try simp only [wL, Nat.reduceBEq]); rfl) ?_
    exact ⟨by rw [badEnd (by simp [readBad, k1])], hE03⟩
   by_cases k2 : (20 : Int) < h.reads[k].value.size
   case pos =>
    have k2' : 20 < h.reads[k].value.size := by omega
    refine w_reg fun K hK => ?_; simp (disch := omega) only [↓wD, wU, simprocAttr, f1, hne, e0, k1, k2]; refine hK _ _ ?_; clear hK K
    refine wt ?_
    refine w_reg fun K hK => ?_; simp (disch := omega) only [↓wD, wU, simprocAttr]; refine hK _ _ ?_; clear hK K
    refine w_ret ?_; (with_reducible repeat first | apply q_n | apply q_e | apply q_r | apply bq_n | apply bq_e | apply bq_r | apply bq_o rfl); refine ret1 (by (try simp only [wL, Nat.reduceBEq]); rfl) ?_
    exact ⟨by rw [badEnd (by simp [readBad, k2'])], k1 ▸ hE03⟩
   have go : ∀ (g : Fr) (H2 : Hp), Ext H1 H2 → g 1 = .pointer (some ⟨H.size, 0, none⟩) → g 3 = .int .i64 (h.acts.countP fun a => !decide (a.kind = 2)) → g 4 = .bool (h.acts.any fun a => !decide (a.kind = 1)) → g 6 = .int .i64 (k + 1 : Nat) → readBad h.key h.reads[k] = false → ∃ m, m < h.reads.length - k ∧ Ext H1 H2 ∧ g 1 = .pointer (some ⟨H.size, 0, none⟩) ∧ g 3 = .int .i64 (h.acts.countP fun a => !decide (a.kind = 2)) ∧ g 4 = .bool (h.acts.any fun a => !decide (a.kind = 1)) ∧ ∃ (k : Nat), g 6 = .int .i64 k ∧ k ≤ h.reads.length ∧ (∀ j (hj : j < h.reads.length), j < k → readBad h.key h.reads[j] = false) ∧ m = h.reads.length - k := by
    intro g H2 g0 g1 g3 g4 g6 hgood
    refine ⟨h.reads.length - (k + 1), by omega, g0, g1, g3, g4, k + 1, g6, by omega, fun j hj h' => ?_, rfl⟩
    by_cases e : j = k
    ·subst e; exact hgood
    ·exact hbad j hj (by omega)
   have k2' : ¬ 20 < h.reads[k].value.size := by omega
   cases k3 : h.reads[k].is with
   | true =>
    refine w_reg fun K hK => ?_; simp (disch := omega) only [↓wD, wU, simprocAttr, f1, hne, e0, k1, k2, k3]; refine hK _ _ ?_; clear hK K
    refine wf ?_
    refine w_skip ?_
    (with_reducible repeat first | apply q_n | apply q_e | apply q_r | apply bq_n | apply bq_e | apply bq_r | apply bq_o rfl)
    refine w_reg1 fun K hK => ?_; simp (disch := omega) only [↓wD, wU, simprocAttr, f6]; refine hK _ _ ?_; clear hK K
    (with_reducible repeat first | apply q_n | apply q_e | apply q_r | apply bq_n | apply bq_e | apply bq_r | apply bq_o rfl)
    exact go _ _ (hE2.trans ((Ext.refl _).push _)) (by simp only [wL, Nat.reduceBEq, f1]) (by simp only [wL, Nat.reduceBEq, f3]) (by simp only [wL, Nat.reduceBEq, f4]) (by simp only [wL, Nat.reduceBEq]) (by simp [readBad, k1, k2', k3])
   | false =>
    by_cases k4 : h.reads[k].value = .empty
    ·have k5 : ((20 : Int) < ByteArray.empty.size) = False := by simp
     refine w_reg fun K hK => ?_; simp (disch := omega) only [↓wD, wU, simprocAttr, f1, hne, e0, k1, k2, k3, k4, k5]; refine hK _ _ ?_; clear hK K
     refine wf ?_
     refine w_skip ?_
     (with_reducible repeat first | apply q_n | apply q_e | apply q_r | apply bq_n | apply bq_e | apply bq_r | apply bq_o rfl)
     refine w_reg1 fun K hK => ?_; simp (disch := omega) only [↓wD, wU, simprocAttr, f6]; refine hK _ _ ?_; clear hK K
     (with_reducible repeat first | apply q_n | apply q_e | apply q_r | apply bq_n | apply bq_e | apply bq_r | apply bq_o rfl)
     exact go _ _ (hE2.trans ((Ext.refl _).push _)) (by simp only [wL, Nat.reduceBEq, f1]) (by simp only [wL, Nat.reduceBEq, f3]) (by simp only [wL, Nat.reduceBEq, f4]) (by simp only [wL, Nat.reduceBEq]) (by simp [readBad, k1, k2', k3, k4])
    ·refine w_reg fun K hK => ?_; simp (disch := omega) only [↓wD, wU, simprocAttr, f1, hne, e0, k1, k2, k3, k4]; refine hK _ _ ?_; clear hK K
     refine wt ?_
     refine w_reg fun K hK => ?_; simp (disch := omega) only [↓wD, wU, simprocAttr]; refine hK _ _ ?_; clear hK K
     refine w_ret ?_; (with_reducible repeat first | apply q_n | apply q_e | apply q_r | apply bq_n | apply bq_e | apply bq_r | apply bq_o rfl); refine ret1 (by (try simp only [wL, Nat.reduceBEq]); rfl) ?_
     exact ⟨by rw [badEnd (by simp [readBad, k3, k4])], hE02.trans ((Ext.refl _).push _)⟩
  ·refine w_reg fun K hK => ?_; simp (disch := omega) only [↓wD, wU, simprocAttr, f1, f6, e4, hlk]; refine hK _ _ ?_; clear hK K
   refine wf ?_
   refine w_exit ?_
   (with_reducible repeat first | apply q_n | apply q_e | apply q_r | apply bq_n | apply bq_e | apply bq_r | apply bq_o rfl)
   have hany : h.reads.any (readBad h.key) = false := List.any_eq_false.2 fun x hx => by
    obtain ⟨j, hj, rfl⟩ := List.mem_iff_getElem.1 hx
    simp [hbad j hj (by omega)]
   have eR2 : rightB h = (decide (h.reads.length = h.acts.countP fun a => !decide (a.kind = 2)) && decide (h.put = h.acts.any fun a => !decide (a.kind = 1))) := by
    rw [eR, hact, hany]; simp only [Bool.not_false, Bool.true_and]
   rw [eR2]
   generalize (h.acts.countP fun a => !decide (a.kind = 2)) = N at *
   generalize (h.acts.any fun a => !decide (a.kind = 1)) = B at *
   by_cases hn : h.reads.length = N
   ·cases hp : h.put <;> cases B
    all_goals
     refine w_reg fun K hK => ?_; simp (disch := omega) only [↓wD, wU, simprocAttr, f1, f3, f4, e4, e5, hn, hp]; refine hK _ _ ?_; clear hK K
     refine w_ret ?_; (with_reducible repeat first | apply q_n | apply q_e | apply q_r | apply bq_n | apply bq_e | apply bq_r | apply bq_o rfl); refine ret1 (by (try simp only [wL, Nat.reduceBEq]); rfl) ?_
     refine ⟨?_, hE02⟩
     simp [hn]
   ·have hn' : ((h.reads.length : Int) = (N : Int)) = False := by simp; omega
    refine w_reg fun K hK => ?_; simp (disch := omega) only [↓wD, wU, simprocAttr, f1, f3, f4, e4, e5, hn, hn']; refine hK _ _ ?_; clear hK K
    refine w_ret ?_; (with_reducible repeat first | apply q_n | apply q_e | apply q_r | apply bq_n | apply bq_e | apply bq_r | apply bq_o rfl); refine ret1 (by (try simp only [wL, Nat.reduceBEq]); rfl) ?_
    refine ⟨?_, hE02⟩
    simp [hn]
theorem Right16_cl {S : Nat → Prop} {H : Hp} {v : Value} {l : List Hd} (hv : HdSl S H v l) : Cl Tryz.prog 26 [v] H fun r H' => r = .bool (l.all rightB) ∧ Ext H H' := by
 refine cl_of mixed c_watershedref16_Right (Nat.le_of_ble_eq_true rfl) ?_
 simp only [fwp, ir_watershedref16_Right, argF, Nat.reduceAdd]
 obtain ⟨a, c, rfl, hc, hl, hel⟩ := SlP.open hv
 clear hv
 refine w_reg fun K hK => ?_; simp (disch := omega) only [↓wD, wU, simprocAttr]; refine hK _ _ ?_; clear hK K
 refine w_seq (w_seq ?_)
 refine w_reg fun K hK => ?_; simp (disch := omega) only [↓wD, wU, simprocAttr]; refine hK _ _ ?_; clear hK K
 refine w_blk (w_loop (fun n f H' => Ext H H' ∧ f 0 = .slice a l.length c ∧ ∃ (i : Nat), f 3 = .int .i64 i ∧ i ≤ l.length ∧ (∀ j (hj : j < l.length), j < i → rightB l[j] = true) ∧ n = l.length - i) _ ⟨Ext.refl _, rfl, 0, rfl, Nat.zero_le _, fun j hj h => by omega, rfl⟩ ?_)
 rintro n f H' ⟨hE, f0, i, f3, hi, hall, rfl⟩
 refine w_seq (w_seq ?_)
 by_cases hlt : i < l.length
 ·obtain ⟨b, o, rfl, hS, cs, hcs, he⟩ := hel i hlt
  have hcs1 := rdn_ext hE hcs
  refine w_reg fun K hK => ?_; simp (disch := omega) only [↓wD, wU, simprocAttr, f0, f3, hlt]; refine hK _ _ ?_; clear hK K
  refine wt ?_
  refine w_skip ?_
  (with_reducible repeat first | apply q_n | apply q_e | apply q_r | apply bq_n | apply bq_e | apply bq_r | apply bq_o rfl)
  refine w_seq (w_blk ?_)
  refine w_seq ?_
  refine w_reg fun K hK => ?_
  simp (disch := omega) only [↓wD, wU, simprocAttr, f0, f3, hlt, hcs1]
  refine w_call (one16_cl (he.ext hE)) ?_
  rintro _ H2 ⟨rfl, hE2⟩
  cases hq : rightB l[i] with
  | true =>
   simp (disch := omega) only [↓wD, wU, simprocAttr]
   refine hK _ _ ?_
   clear hK K
   refine wf ?_
   refine w_skip ?_
   (with_reducible repeat first | apply q_n | apply q_e | apply q_r | apply bq_n | apply bq_e | apply bq_r | apply bq_o rfl)
   refine w_reg1 fun K hK => ?_; simp (disch := omega) only [↓wD, wU, simprocAttr, f3]; refine hK _ _ ?_; clear hK K
   (with_reducible repeat first | apply q_n | apply q_e | apply q_r | apply bq_n | apply bq_e | apply bq_r | apply bq_o rfl)
   exact ⟨l.length - (i + 1), by omega, hE.trans hE2, (by simp only [wL, Nat.reduceBEq, f0]), i + 1, (by simp only [wL, Nat.reduceBEq]), by omega, all_take hlt hall hq, rfl⟩
  | false =>
   simp (disch := omega) only [↓wD, wU, simprocAttr]
   refine hK _ _ ?_
   clear hK K
   refine wt ?_
   refine w_reg fun K hK => ?_; simp (disch := omega) only [↓wD, wU, simprocAttr]; refine hK _ _ ?_; clear hK K
   refine w_ret ?_; (with_reducible repeat first | apply q_n | apply q_e | apply q_r | apply bq_n | apply bq_e | apply bq_r | apply bq_o rfl); refine ret1 (by (try simp only [wL, Nat.reduceBEq]); rfl) ?_
   refine ⟨?_, hE.trans hE2⟩
   rw [all_bad hlt hq]
 ·refine w_reg fun K hK => ?_; simp (disch := omega) only [↓wD, wU, simprocAttr, f0, f3, hlt]; refine hK _ _ ?_; clear hK K
  refine wf ?_
  refine w_exit ?_
  (with_reducible repeat first | apply q_n | apply q_e | apply q_r | apply bq_n | apply bq_e | apply bq_r | apply bq_o rfl)
  refine w_reg fun K hK => ?_; simp (disch := omega) only [↓wD, wU, simprocAttr]; refine hK _ _ ?_; clear hK K
  refine w_ret ?_; (with_reducible repeat first | apply q_n | apply q_e | apply q_r | apply bq_n | apply bq_e | apply bq_r | apply bq_o rfl); refine ret1 (by (try simp only [wL, Nat.reduceBEq]); rfl) ?_
  exact ⟨by rw [all_get fun j hj => hall j hj (by omega)], hE⟩
end Go.WK
/-
 The texts in the small language of some loaded functions, each held against the loaded one by the kernel.
-/
namespace Go.WK
open Go
def ir_watershedkit_markText : FIR := ⟨23, (.seq (.reg [.s 4 (.mv (.const (.string .empty)))])
 (.seq (.reg [.s 5 (.mv (.tmp 0)),
  .s 6 (.cvi .u8 (.tmp 5)),
  .s 7 (.mv (.tmp 0)),
  .s 8 (.bin .shr (.tmp 7) (.const (.int .u64 8))),
  .s 9 (.cvi .u8 (.tmp 8)),
  .s 10 (.mv (.tmp 0)),
  .s 11 (.bin .shr (.tmp 10) (.const (.int .u64 16))),
  .s 12 (.cvi .u8 (.tmp 11)),
  .s 13 (.mv (.tmp 1)),
  .s 14 (.cvi .u8 (.tmp 13)),
  .s 15 (.mv (.tmp 1)),
  .s 16 (.bin .shr (.tmp 15) (.const (.int .u64 8))),
  .s 17 (.cvi .u8 (.tmp 16)),
  .s 18 (.mv (.tmp 1)),
  .s 19 (.bin .shr (.tmp 18) (.const (.int .u64 16))),
  .s 20 (.cvi .u8 (.tmp 19)),
  .s 21 (.bsl 5 8 [(.int .u8 0), (.int .u8 0), (.int .u8 0), (.int .u8 0), (.int .u8 0), (.int .u8 0), (.int .u8 0), (.int .u8 0)] [(0, 1, (.const (.int .u8 35))), (1, 1, (.tmp 6)), (2, 1, (.tmp 9)), (3, 1, (.tmp 12)), (4, 1, (.const (.int .u8 47))), (5, 1, (.tmp 14)), (6, 1, (.tmp 17)), (7, 1, (.tmp 20))]),
  .s 22 (.cbs (.tmp 21)),
  .s 4 (.mv (.tmp 22))])
 .ret)), [.t 4]⟩
theorem c_watershedkit_markText : (compF Go.Proofs.Tryz.prog 117).map linF = some ir_watershedkit_markText := by kernel_rfl
def ir_watershedkit_markAct : FIR := ⟨9, (.seq (.reg [.s 4 (.new 98 [(.int .u8 0), (.string .empty), (.string .empty), (.int .i64 0)])])
 (.seq (.reg [.s 5 (.mv (.tmp 0)),
  .s 6 (.mv (.tmp 1)),
  .s 7 (.call 117 [(.tmp 5), (.tmp 6)]),
  .s 8 (.bld [(.int .u8 0), (.string .empty), (.string .empty), (.int .i64 0)] [(1, 1, (.tmp 7))]),
  .e (.st 4 (.tmp 4) (.tmp 8))])
 .ret)), [.cn 4 4]⟩
theorem c_watershedkit_markAct : (compF Go.Proofs.Tryz.prog 155).map linF = some ir_watershedkit_markAct := by kernel_rfl
def ir_watershedkit_markRead : FIR := ⟨9, (.seq (.reg [.s 4 (.new 100 [(.string .empty), (.bool false), (.string .empty)])])
 (.seq (.reg [.s 5 (.mv (.tmp 0)),
  .s 6 (.mv (.tmp 1)),
  .s 7 (.call 117 [(.tmp 5), (.tmp 6)]),
  .s 8 (.bld [(.string .empty), (.bool false), (.string .empty)] [(0, 1, (.tmp 7))]),
  .e (.st 3 (.tmp 4) (.tmp 8))])
 .ret)), [.cn 4 3]⟩
theorem c_watershedkit_markRead : (compF Go.Proofs.Tryz.prog 156).map linF = some ir_watershedkit_markRead := by kernel_rfl
def ir_watershedkit_markHold : FIR := ⟨9, (.seq (.reg [.s 4 (.new 35 [(.string .empty), (.int .i64 0), (.int .i64 0), (.slice none 0 0), (.slice none 0 0), (.bool false), (.string .empty)])])
 (.seq (.reg [.s 5 (.mv (.tmp 0)),
  .s 6 (.mv (.tmp 1)),
  .s 7 (.call 117 [(.tmp 5), (.tmp 6)]),
  .s 8 (.bld [(.string .empty), (.int .i64 0), (.int .i64 0), (.slice none 0 0), (.slice none 0 0), (.bool false), (.string .empty)] [(0, 1, (.tmp 7))]),
  .e (.st 7 (.tmp 4) (.tmp 8))])
 .ret)), [.cn 4 7]⟩
theorem c_watershedkit_markHold : (compF Go.Proofs.Tryz.prog 62).map linF = some ir_watershedkit_markHold := by kernel_rfl
def ir_watershedkit_LentActs : FIR := ⟨25, (.seq (.reg [.s 2 (.mv (.const (.slice none 0 0)))])
 (.seq (.reg [.s 5 (.mv (.tmp 0)),
  .s 6 (.len (.tmp 5)),
  .s 7 (.bin .add (.tmp 6) (.const (.int .i64 12))),
  .s 8 (.mks 98 4 48 [(.int .u8 0), (.string .empty), (.string .empty), (.int .i64 0)] (.const (.int .i64 0)) (.tmp 7)),
  .s 3 (.mv (.tmp 8))])
 (.seq (.reg [.s 9 (.mv (.tmp 3)),
  .s 10 (.mv (.tmp 0)),
  .s 11 (.app 98 4 48 [(.int .u8 0), (.string .empty), (.string .empty), (.int .i64 0)] (.tmp 9) (.tmp 10)),
  .s 3 (.mv (.tmp 11))])
  (.seq (.seq (.reg [.s 4 (.mv (.const (.int .i64 0)))])
   (.blk 0 (.loop (.seq (.seq (.reg [.s 12 (.mv (.tmp 4)),
     .s 13 (.bin .lss (.tmp 12) (.const (.int .i64 12)))])
     (.cnd (.tmp 13) .skip
      (.exit 0)))
    (.seq (.blk 1 (.reg [.s 16 (.mv (.tmp 3)),
      .s 17 (.mv (.tmp 4)),
      .s 18 (.call 155 [(.const (.int .i64 1)), (.tmp 17)]),
      .s 19 (.bsl 98 1 [(.int .u8 0), (.string .empty), (.string .empty), (.int .i64 0)] [(0, 4, (.tmp 18))]),
      .s 20 (.app 98 4 48 [(.int .u8 0), (.string .empty), (.string .empty), (.int .i64 0)] (.tmp 16) (.tmp 19)),
      .s 3 (.mv (.tmp 20))]))
     (.reg [.s 14 (.mv (.tmp 4)),
     .s 15 (.bin .add (.tmp 14) (.const (.int .i64 1))),
     .s 4 (.mv (.tmp 15))]))))))
  (.seq (.reg [.s 21 (.mv (.tmp 3)),
   .s 22 (.mv (.tmp 0)),
   .s 23 (.len (.tmp 22)),
   .s 24 (.sl 4 (.tmp 21) none (some (.tmp 23)) none),
   .s 2 (.mv (.tmp 24))])
   .ret))))), [.t 2]⟩
theorem c_watershedkit_LentActs : (compF Go.Proofs.Tryz.prog 115).map linF = some ir_watershedkit_LentActs := by kernel_rfl
def ir_watershedkit_LentReads : FIR := ⟨25, (.seq (.reg [.s 2 (.mv (.const (.slice none 0 0)))])
 (.seq (.reg [.s 5 (.mv (.tmp 0)),
  .s 6 (.len (.tmp 5)),
  .s 7 (.bin .add (.tmp 6) (.const (.int .i64 12))),
  .s 8 (.mks 100 3 40 [(.string .empty), (.bool false), (.string .empty)] (.const (.int .i64 0)) (.tmp 7)),
  .s 3 (.mv (.tmp 8))])
 (.seq (.reg [.s 9 (.mv (.tmp 3)),
  .s 10 (.mv (.tmp 0)),
  .s 11 (.app 100 3 40 [(.string .empty), (.bool false), (.string .empty)] (.tmp 9) (.tmp 10)),
  .s 3 (.mv (.tmp 11))])
  (.seq (.seq (.reg [.s 4 (.mv (.const (.int .i64 0)))])
   (.blk 0 (.loop (.seq (.seq (.reg [.s 12 (.mv (.tmp 4)),
     .s 13 (.bin .lss (.tmp 12) (.const (.int .i64 12)))])
     (.cnd (.tmp 13) .skip
      (.exit 0)))
    (.seq (.blk 1 (.reg [.s 16 (.mv (.tmp 3)),
      .s 17 (.mv (.tmp 4)),
      .s 18 (.call 156 [(.const (.int .i64 1)), (.tmp 17)]),
      .s 19 (.bsl 100 1 [(.string .empty), (.bool false), (.string .empty)] [(0, 3, (.tmp 18))]),
      .s 20 (.app 100 3 40 [(.string .empty), (.bool false), (.string .empty)] (.tmp 16) (.tmp 19)),
      .s 3 (.mv (.tmp 20))]))
     (.reg [.s 14 (.mv (.tmp 4)),
     .s 15 (.bin .add (.tmp 14) (.const (.int .i64 1))),
     .s 4 (.mv (.tmp 15))]))))))
  (.seq (.reg [.s 21 (.mv (.tmp 3)),
   .s 22 (.mv (.tmp 0)),
   .s 23 (.len (.tmp 22)),
   .s 24 (.sl 3 (.tmp 21) none (some (.tmp 23)) none),
   .s 2 (.mv (.tmp 24))])
   .ret))))), [.t 2]⟩
theorem c_watershedkit_LentReads : (compF Go.Proofs.Tryz.prog 116).map linF = some ir_watershedkit_LentReads := by kernel_rfl
def ir_watershedkit_LentHold : FIR := ⟨12, (.seq (.reg [.s 1 (.box 35 (.tmp 0)),
 .s 2 (.new 35 [(.string .empty), (.int .i64 0), (.int .i64 0), (.slice none 0 0), (.slice none 0 0), (.bool false), (.string .empty)])])
 (.seq (.reg [.s 3 (.fa 3 (.tmp 1)),
  .s 4 (.ld (.tmp 3)),
  .s 5 (.call 115 [(.tmp 4)]),
  .s 6 (.fa 3 (.tmp 1)),
  .e (.st 1 (.tmp 6) (.tmp 5))])
 (.seq (.reg [.s 7 (.fa 4 (.tmp 1)),
  .s 8 (.ld (.tmp 7)),
  .s 9 (.call 116 [(.tmp 8)]),
  .s 10 (.fa 4 (.tmp 1)),
  .e (.st 1 (.tmp 10) (.tmp 9))])
  (.seq (.reg [.s 11 (.ldn 7 (.tmp 1)),
   .e (.st 7 (.tmp 2) (.tmp 11))])
  .ret)))), [.cn 2 7]⟩
theorem c_watershedkit_LentHold : (compF Go.Proofs.Tryz.prog 61).map linF = some ir_watershedkit_LentHold := by kernel_rfl
def ir_watershedkit_LentHolds : FIR := ⟨39, (.seq (.reg [.s 2 (.mv (.const (.slice none 0 0)))])
 (.seq (.reg [.s 7 (.mv (.tmp 0)),
  .s 8 (.len (.tmp 7)),
  .s 9 (.bin .add (.tmp 8) (.const (.int .i64 12))),
  .s 10 (.mks 35 7 104 [(.string .empty), (.int .i64 0), (.int .i64 0), (.slice none 0 0), (.slice none 0 0), (.bool false), (.string .empty)] (.const (.int .i64 0)) (.tmp 9)),
  .s 3 (.mv (.tmp 10))])
 (.seq (.seq (.reg [.s 4 (.mv (.const (.int .i64 0)))])
  (.blk 0 (.loop (.seq (.seq (.reg [.s 11 (.mv (.tmp 4)),
     .s 12 (.mv (.tmp 0)),
     .s 13 (.len (.tmp 12)),
     .s 14 (.bin .lss (.tmp 11) (.tmp 13))])
    (.cnd (.tmp 14) .skip
     (.exit 0)))
    (.seq (.blk 1 (.seq (.reg [.s 17 (.mv (.tmp 0)),
      .s 18 (.mv (.tmp 4)),
      .s 19 (.ia 7 (.tmp 17) (.tmp 18)),
      .s 20 (.ldn 7 (.tmp 19)),
      .s 21 (.call 61 [(.tmp 20)]),
      .s 5 (.new 35 [(.string .empty), (.int .i64 0), (.int .i64 0), (.slice none 0 0), (.slice none 0 0), (.bool false), (.string .empty)]),
      .e (.st 7 (.tmp 5) (.tmp 21))])
     (.reg [.s 22 (.mv (.tmp 3)),
      .s 23 (.ldn 7 (.tmp 5)),
      .s 24 (.bsl 35 1 [(.string .empty), (.int .i64 0), (.int .i64 0), (.slice none 0 0), (.slice none 0 0), (.bool false), (.string .empty)] [(0, 7, (.tmp 23))]),
      .s 25 (.app 35 7 104 [(.string .empty), (.int .i64 0), (.int .i64 0), (.slice none 0 0), (.slice none 0 0), (.bool false), (.string .empty)] (.tmp 22) (.tmp 24)),
      .s 3 (.mv (.tmp 25))])))
    (.reg [.s 15 (.mv (.tmp 4)),
     .s 16 (.bin .add (.tmp 15) (.const (.int .i64 1))),
     .s 4 (.mv (.tmp 16))]))))))
  (.seq (.seq (.reg [.s 6 (.mv (.const (.int .i64 0)))])
   (.blk 2 (.loop (.seq (.seq (.reg [.s 26 (.mv (.tmp 6)),
     .s 27 (.bin .lss (.tmp 26) (.const (.int .i64 12)))])
     (.cnd (.tmp 27) .skip
      (.exit 2)))
    (.seq (.blk 3 (.reg [.s 30 (.mv (.tmp 3)),
      .s 31 (.mv (.tmp 6)),
      .s 32 (.call 62 [(.const (.int .i64 1)), (.tmp 31)]),
      .s 33 (.bsl 35 1 [(.string .empty), (.int .i64 0), (.int .i64 0), (.slice none 0 0), (.slice none 0 0), (.bool false), (.string .empty)] [(0, 7, (.tmp 32))]),
      .s 34 (.app 35 7 104 [(.string .empty), (.int .i64 0), (.int .i64 0), (.slice none 0 0), (.slice none 0 0), (.bool false), (.string .empty)] (.tmp 30) (.tmp 33)),
      .s 3 (.mv (.tmp 34))]))
     (.reg [.s 28 (.mv (.tmp 6)),
     .s 29 (.bin .add (.tmp 28) (.const (.int .i64 1))),
     .s 6 (.mv (.tmp 29))]))))))
  (.seq (.reg [.s 35 (.mv (.tmp 3)),
   .s 36 (.mv (.tmp 0)),
   .s 37 (.len (.tmp 36)),
   .s 38 (.sl 7 (.tmp 35) none (some (.tmp 37)) none),
   .s 2 (.mv (.tmp 38))])
   .ret))))), [.t 2]⟩
theorem c_watershedkit_LentHolds : (compF Go.Proofs.Tryz.prog 19).map linF = some ir_watershedkit_LentHolds := by kernel_rfl
def ir_watershedkit_KeptActs : FIR := ⟨58, (.seq (.reg [.s 4 (.mv (.const (.bool false)))])
 (.seq (.seq (.reg [.s 7 (.mv (.tmp 0)),
  .s 8 (.len (.tmp 7)),
  .s 9 (.mv (.tmp 1)),
  .s 10 (.len (.tmp 9)),
  .s 11 (.bin .neq (.tmp 8) (.tmp 10))])
  (.cnd (.tmp 11) (.seq (.reg [.s 4 (.mv (.const (.bool false)))])
   .ret)
   .skip))
 (.seq (.reg [.s 12 (.mv (.tmp 0)),
  .s 13 (.mv (.tmp 1)),
  .s 14 (.len (.tmp 13)),
  .s 15 (.bin .add (.tmp 14) (.const (.int .i64 12))),
  .s 16 (.sl 4 (.tmp 12) none (some (.tmp 15)) none),
  .s 5 (.mv (.tmp 16))])
  (.seq (.seq (.reg [.s 6 (.mv (.const (.int .i64 0)))])
   (.blk 0 (.loop (.seq (.seq (.reg [.s 17 (.mv (.tmp 6)),
     .s 18 (.mv (.tmp 5)),
     .s 19 (.len (.tmp 18)),
     .s 20 (.bin .lss (.tmp 17) (.tmp 19))])
     (.cnd (.tmp 20) .skip
      (.exit 0)))
    (.seq (.blk 1 (.seq (.lin [(false, .s 23 (.mv (.tmp 6))),
      (false, .s 24 (.mv (.tmp 1))),
      (false, .s 25 (.len (.tmp 24))),
      (false, .s 26 (.bin .lss (.tmp 23) (.tmp 25))),
      (false, .s 27 (.mv (.tmp 26))),
      (false, .g 28 27 true (.mv (.tmp 5))),
      (false, .g 29 27 true (.mv (.tmp 6))),
      (false, .g 30 27 true (.ia 4 (.tmp 28) (.tmp 29))),
      (false, .g 31 27 true (.ldn 4 (.tmp 30))),
      (false, .g 32 27 true (.mv (.tmp 1))),
      (false, .g 33 27 true (.mv (.tmp 6))),
      (false, .g 34 27 true (.ia 4 (.tmp 32) (.tmp 33))),
      (false, .g 35 27 true (.ldn 4 (.tmp 34))),
      (false, .g 36 27 true (.eqs [.i, .s, .s, .i] false (.tmp 31) (.tmp 35))),
      (false, .g 37 27 true (.un .not (.tmp 36))),
      (false, .s 38 (.pick (.tmp 27) (.tmp 37) (.const (.bool false)))),
      (false, .s 39 (.mv (.tmp 38))),
      (false, .g 40 39 false (.mv (.tmp 6))),
      (false, .g 41 39 false (.mv (.tmp 1))),
      (false, .g 42 39 false (.len (.tmp 41))),
      (false, .g 43 39 false (.bin .geq (.tmp 40) (.tmp 42))),
      (false, .g 44 39 false (.mv (.tmp 43))),
      (false, .g 45 44 true (.mv (.tmp 5))),
      (false, .g 46 44 true (.mv (.tmp 6))),
      (false, .g 47 44 true (.ia 4 (.tmp 45) (.tmp 46))),
      (false, .g 48 44 true (.ldn 4 (.tmp 47))),
      (false, .g 49 44 true (.mv (.tmp 6))),
      (false, .g 50 44 true (.mv (.tmp 1))),
      (false, .g 51 44 true (.len (.tmp 50))),
      (false, .g 52 44 true (.bin .sub (.tmp 49) (.tmp 51))),
      (true, .g 53 44 true (.call 155 [(.const (.int .i64 1)), (.tmp 52)])),
      (false, .g 54 44 true (.eqs [.i, .s, .s, .i] false (.tmp 48) (.tmp 53))),
      (false, .g 55 44 true (.un .not (.tmp 54))),
      (false, .g 56 39 false (.pick (.tmp 44) (.tmp 55) (.const (.bool false)))),
      (false, .s 57 (.pick (.tmp 39) (.const (.bool true)) (.tmp 56)))])
      (.cnd (.tmp 57) (.seq (.reg [.s 4 (.mv (.const (.bool false)))])
       .ret)
       .skip)))
     (.reg [.s 21 (.mv (.tmp 6)),
     .s 22 (.bin .add (.tmp 21) (.const (.int .i64 1))),
     .s 6 (.mv (.tmp 22))]))))))
  (.seq (.reg [.s 4 (.mv (.const (.bool true)))])
   .ret))))), [.t 4]⟩
theorem c_watershedkit_KeptActs : (compF Go.Proofs.Tryz.prog 131).map linF = some ir_watershedkit_KeptActs := by kernel_rfl
def ir_watershedkit_KeptReads : FIR := ⟨58, (.seq (.reg [.s 4 (.mv (.const (.bool false)))])
 (.seq (.seq (.reg [.s 7 (.mv (.tmp 0)),
  .s 8 (.len (.tmp 7)),
  .s 9 (.mv (.tmp 1)),
  .s 10 (.len (.tmp 9)),
  .s 11 (.bin .neq (.tmp 8) (.tmp 10))])
  (.cnd (.tmp 11) (.seq (.reg [.s 4 (.mv (.const (.bool false)))])
   .ret)
   .skip))
 (.seq (.reg [.s 12 (.mv (.tmp 0)),
  .s 13 (.mv (.tmp 1)),
  .s 14 (.len (.tmp 13)),
  .s 15 (.bin .add (.tmp 14) (.const (.int .i64 12))),
  .s 16 (.sl 3 (.tmp 12) none (some (.tmp 15)) none),
  .s 5 (.mv (.tmp 16))])
  (.seq (.seq (.reg [.s 6 (.mv (.const (.int .i64 0)))])
   (.blk 0 (.loop (.seq (.seq (.reg [.s 17 (.mv (.tmp 6)),
     .s 18 (.mv (.tmp 5)),
     .s 19 (.len (.tmp 18)),
     .s 20 (.bin .lss (.tmp 17) (.tmp 19))])
     (.cnd (.tmp 20) .skip
      (.exit 0)))
    (.seq (.blk 1 (.seq (.lin [(false, .s 23 (.mv (.tmp 6))),
      (false, .s 24 (.mv (.tmp 1))),
      (false, .s 25 (.len (.tmp 24))),
      (false, .s 26 (.bin .lss (.tmp 23) (.tmp 25))),
      (false, .s 27 (.mv (.tmp 26))),
      (false, .g 28 27 true (.mv (.tmp 5))),
      (false, .g 29 27 true (.mv (.tmp 6))),
      (false, .g 30 27 true (.ia 3 (.tmp 28) (.tmp 29))),
      (false, .g 31 27 true (.ldn 3 (.tmp 30))),
      (false, .g 32 27 true (.mv (.tmp 1))),
      (false, .g 33 27 true (.mv (.tmp 6))),
      (false, .g 34 27 true (.ia 3 (.tmp 32) (.tmp 33))),
      (false, .g 35 27 true (.ldn 3 (.tmp 34))),
      (false, .g 36 27 true (.eqs [.s, .b, .s] false (.tmp 31) (.tmp 35))),
      (false, .g 37 27 true (.un .not (.tmp 36))),
      (false, .s 38 (.pick (.tmp 27) (.tmp 37) (.const (.bool false)))),
      (false, .s 39 (.mv (.tmp 38))),
      (false, .g 40 39 false (.mv (.tmp 6))),
      (false, .g 41 39 false (.mv (.tmp 1))),
      (false, .g 42 39 false (.len (.tmp 41))),
      (false, .g 43 39 false (.bin .geq (.tmp 40) (.tmp 42))),
      (false, .g 44 39 false (.mv (.tmp 43))),
      (false, .g 45 44 true (.mv (.tmp 5))),
      (false, .g 46 44 true (.mv (.tmp 6))),
      (false, .g 47 44 true (.ia 3 (.tmp 45) (.tmp 46))),
      (false, .g 48 44 true (.ldn 3 (.tmp 47))),
      (false, .g 49 44 true (.mv (.tmp 6))),
      (false, .g 50 44 true (.mv (.tmp 1))),
      (false, .g 51 44 true (.len (.tmp 50))),
      (false, .g 52 44 true (.bin .sub (.tmp 49) (.tmp 51))),
      (true, .g 53 44 true (.call 156 [(.const (.int .i64 1)), (.tmp 52)])),
      (false, .g 54 44 true (.eqs [.s, .b, .s] false (.tmp 48) (.tmp 53))),
      (false, .g 55 44 true (.un .not (.tmp 54))),
      (false, .g 56 39 false (.pick (.tmp 44) (.tmp 55) (.const (.bool false)))),
      (false, .s 57 (.pick (.tmp 39) (.const (.bool true)) (.tmp 56)))])
      (.cnd (.tmp 57) (.seq (.reg [.s 4 (.mv (.const (.bool false)))])
       .ret)
       .skip)))
     (.reg [.s 21 (.mv (.tmp 6)),
     .s 22 (.bin .add (.tmp 21) (.const (.int .i64 1))),
     .s 6 (.mv (.tmp 22))]))))))
  (.seq (.reg [.s 4 (.mv (.const (.bool true)))])
   .ret))))), [.t 4]⟩
theorem c_watershedkit_KeptReads : (compF Go.Proofs.Tryz.prog 132).map linF = some ir_watershedkit_KeptReads := by kernel_rfl
def ir_watershedkit_KeptHold : FIR := ⟨22, (.seq (.reg [.s 2 (.box 35 (.tmp 0)),
 .s 3 (.box 35 (.tmp 1)),
 .s 4 (.mv (.const (.bool false)))])
 (.seq (.reg [.s 5 (.ldn 7 (.tmp 2)),
  .s 6 (.ldn 7 (.tmp 3)),
  .s 7 (.call 18 [(.tmp 5), (.tmp 6)]),
  .s 8 (.mv (.tmp 7)),
  .g 9 8 true (.fa 3 (.tmp 2)),
  .g 10 8 true (.ld (.tmp 9)),
  .g 11 8 true (.fa 3 (.tmp 3)),
  .g 12 8 true (.ld (.tmp 11)),
  .g 13 8 true (.call 131 [(.tmp 10), (.tmp 12)]),
  .s 14 (.pick (.tmp 8) (.tmp 13) (.const (.bool false))),
  .s 15 (.mv (.tmp 14)),
  .g 16 15 true (.fa 4 (.tmp 2)),
  .g 17 15 true (.ld (.tmp 16)),
  .g 18 15 true (.fa 4 (.tmp 3)),
  .g 19 15 true (.ld (.tmp 18)),
  .g 20 15 true (.call 132 [(.tmp 17), (.tmp 19)]),
  .s 21 (.pick (.tmp 15) (.tmp 20) (.const (.bool false))),
  .s 4 (.mv (.tmp 21))])
 .ret)), [.t 4]⟩
theorem c_watershedkit_KeptHold : (compF Go.Proofs.Tryz.prog 73).map linF = some ir_watershedkit_KeptHold := by kernel_rfl
def ir_watershedkit_KeptHolds : FIR := ⟨58, (.seq (.reg [.s 4 (.mv (.const (.bool false)))])
 (.seq (.seq (.reg [.s 7 (.mv (.tmp 0)),
  .s 8 (.len (.tmp 7)),
  .s 9 (.mv (.tmp 1)),
  .s 10 (.len (.tmp 9)),
  .s 11 (.bin .neq (.tmp 8) (.tmp 10))])
  (.cnd (.tmp 11) (.seq (.reg [.s 4 (.mv (.const (.bool false)))])
   .ret)
   .skip))
 (.seq (.reg [.s 12 (.mv (.tmp 0)),
  .s 13 (.mv (.tmp 1)),
  .s 14 (.len (.tmp 13)),
  .s 15 (.bin .add (.tmp 14) (.const (.int .i64 12))),
  .s 16 (.sl 7 (.tmp 12) none (some (.tmp 15)) none),
  .s 5 (.mv (.tmp 16))])
  (.seq (.seq (.reg [.s 6 (.mv (.const (.int .i64 0)))])
   (.blk 0 (.loop (.seq (.seq (.reg [.s 17 (.mv (.tmp 6)),
     .s 18 (.mv (.tmp 5)),
     .s 19 (.len (.tmp 18)),
     .s 20 (.bin .lss (.tmp 17) (.tmp 19))])
     (.cnd (.tmp 20) .skip
      (.exit 0)))
    (.seq (.blk 1 (.seq (.lin [(false, .s 23 (.mv (.tmp 6))),
      (false, .s 24 (.mv (.tmp 1))),
      (false, .s 25 (.len (.tmp 24))),
      (false, .s 26 (.bin .lss (.tmp 23) (.tmp 25))),
      (false, .s 27 (.mv (.tmp 26))),
      (false, .g 28 27 true (.mv (.tmp 5))),
      (false, .g 29 27 true (.mv (.tmp 6))),
      (false, .g 30 27 true (.ia 7 (.tmp 28) (.tmp 29))),
      (false, .g 31 27 true (.ldn 7 (.tmp 30))),
      (false, .g 32 27 true (.mv (.tmp 1))),
      (false, .g 33 27 true (.mv (.tmp 6))),
      (false, .g 34 27 true (.ia 7 (.tmp 32) (.tmp 33))),
      (false, .g 35 27 true (.ldn 7 (.tmp 34))),
      (false, .g 36 27 true (.call 73 [(.tmp 31), (.tmp 35)])),
      (false, .g 37 27 true (.un .not (.tmp 36))),
      (false, .s 38 (.pick (.tmp 27) (.tmp 37) (.const (.bool false)))),
      (false, .s 39 (.mv (.tmp 38))),
      (false, .g 40 39 false (.mv (.tmp 6))),
      (false, .g 41 39 false (.mv (.tmp 1))),
      (false, .g 42 39 false (.len (.tmp 41))),
      (false, .g 43 39 false (.bin .geq (.tmp 40) (.tmp 42))),
      (false, .g 44 39 false (.mv (.tmp 43))),
      (false, .g 45 44 true (.mv (.tmp 5))),
      (false, .g 46 44 true (.mv (.tmp 6))),
      (false, .g 47 44 true (.ia 7 (.tmp 45) (.tmp 46))),
      (false, .g 48 44 true (.ldn 7 (.tmp 47))),
      (false, .g 49 44 true (.mv (.tmp 6))),
      (false, .g 50 44 true (.mv (.tmp 1))),
      (false, .g 51 44 true (.len (.tmp 50))),
      (false, .g 52 44 true (.bin .sub (.tmp 49) (.tmp 51))),
      (true, .g 53 44 true (.call 62 [(.const (.int .i64 1)), (.tmp 52)])),
      (true, .g 54 44 true (.call 18 [(.tmp 48), (.tmp 53)])),
      (false, .g 55 44 true (.un .not (.tmp 54))),
      (false, .g 56 39 false (.pick (.tmp 44) (.tmp 55) (.const (.bool false)))),
      (false, .s 57 (.pick (.tmp 39) (.const (.bool true)) (.tmp 56)))])
      (.cnd (.tmp 57) (.seq (.reg [.s 4 (.mv (.const (.bool false)))])
       .ret)
       .skip)))
     (.reg [.s 21 (.mv (.tmp 6)),
     .s 22 (.bin .add (.tmp 21) (.const (.int .i64 1))),
     .s 6 (.mv (.tmp 22))]))))))
  (.seq (.reg [.s 4 (.mv (.const (.bool true)))])
   .ret))))), [.t 4]⟩
theorem c_watershedkit_KeptHolds : (compF Go.Proofs.Tryz.prog 27).map linF = some ir_watershedkit_KeptHolds := by kernel_rfl
def ir_watershedkit_SameBytes : FIR := ⟨26, (.seq (.reg [.s 4 (.mv (.const (.bool false)))])
 (.seq (.seq (.reg [.s 6 (.mv (.tmp 0)),
  .s 7 (.len (.tmp 6)),
  .s 8 (.mv (.tmp 1)),
  .s 9 (.len (.tmp 8)),
  .s 10 (.bin .neq (.tmp 7) (.tmp 9))])
  (.cnd (.tmp 10) (.seq (.reg [.s 4 (.mv (.const (.bool false)))])
   .ret)
   .skip))
 (.seq (.seq (.reg [.s 5 (.mv (.const (.int .i64 0)))])
  (.blk 0 (.loop (.seq (.seq (.reg [.s 11 (.mv (.tmp 5)),
     .s 12 (.mv (.tmp 0)),
     .s 13 (.len (.tmp 12)),
     .s 14 (.bin .lss (.tmp 11) (.tmp 13))])
    (.cnd (.tmp 14) .skip
     (.exit 0)))
    (.seq (.blk 1 (.seq (.reg [.s 17 (.mv (.tmp 0)),
      .s 18 (.mv (.tmp 5)),
      .s 19 (.ia 1 (.tmp 17) (.tmp 18)),
      .s 20 (.ld (.tmp 19)),
      .s 21 (.mv (.tmp 1)),
      .s 22 (.mv (.tmp 5)),
      .s 23 (.ia 1 (.tmp 21) (.tmp 22)),
      .s 24 (.ld (.tmp 23)),
      .s 25 (.bin .neq (.tmp 20) (.tmp 24))])
     (.cnd (.tmp 25) (.seq (.reg [.s 4 (.mv (.const (.bool false)))])
       .ret)
      .skip)))
    (.reg [.s 15 (.mv (.tmp 5)),
     .s 16 (.bin .add (.tmp 15) (.const (.int .i64 1))),
     .s 5 (.mv (.tmp 16))]))))))
  (.seq (.reg [.s 4 (.mv (.const (.bool true)))])
  .ret)))), [.t 4]⟩
theorem c_watershedkit_SameBytes : (compF Go.Proofs.Tryz.prog 24).map linF = some ir_watershedkit_SameBytes := by kernel_rfl
end Go.WK
/-
 The texts in the small language of some loaded functions, each held against the loaded one by the kernel.
-/
namespace Go.WK
open Go
def ir_holds_Holds_Take_1 : FIR := ⟨8, (.seq (.reg [.s 2 (.box 35 (.tmp 0)),
 .s 3 (.mv (.const (.bool false)))])
 (.seq (.reg [.s 4 (.ldn 2 (.tmp 1)),
  .s 5 (.fa 0 (.tmp 2)),
  .s 6 (.ld (.tmp 5)),
  .s 7 (.call 34 [(.tmp 4), (.tmp 6)]),
  .s 3 (.mv (.tmp 7))])
 .ret)), [.t 3]⟩
theorem c_holds_Holds_Take_1 : (compF Go.Proofs.Tryz.prog 85).map linF = some ir_holds_Holds_Take_1 := by kernel_rfl
def ir_watershedkit_SameHolds : FIR := ⟨27, (.seq (.reg [.s 4 (.mv (.const (.bool false)))])
 (.seq (.seq (.reg [.s 6 (.mv (.tmp 0)),
  .s 7 (.len (.tmp 6)),
  .s 8 (.mv (.tmp 1)),
  .s 9 (.len (.tmp 8)),
  .s 10 (.bin .neq (.tmp 7) (.tmp 9))])
  (.cnd (.tmp 10) (.seq (.reg [.s 4 (.mv (.const (.bool false)))])
   .ret)
   .skip))
 (.seq (.seq (.reg [.s 5 (.mv (.const (.int .i64 0)))])
  (.blk 0 (.loop (.seq (.seq (.reg [.s 11 (.mv (.tmp 5)),
     .s 12 (.mv (.tmp 0)),
     .s 13 (.len (.tmp 12)),
     .s 14 (.bin .lss (.tmp 11) (.tmp 13))])
    (.cnd (.tmp 14) .skip
     (.exit 0)))
    (.seq (.blk 1 (.seq (.reg [.s 17 (.mv (.tmp 0)),
      .s 18 (.mv (.tmp 5)),
      .s 19 (.ia 7 (.tmp 17) (.tmp 18)),
      .s 20 (.ldn 7 (.tmp 19)),
      .s 21 (.mv (.tmp 1)),
      .s 22 (.mv (.tmp 5)),
      .s 23 (.ia 7 (.tmp 21) (.tmp 22)),
      .s 24 (.ldn 7 (.tmp 23)),
      .s 25 (.call 18 [(.tmp 20), (.tmp 24)]),
      .s 26 (.un .not (.tmp 25))])
     (.cnd (.tmp 26) (.seq (.reg [.s 4 (.mv (.const (.bool false)))])
       .ret)
      .skip)))
    (.reg [.s 15 (.mv (.tmp 5)),
     .s 16 (.bin .add (.tmp 15) (.const (.int .i64 1))),
     .s 5 (.mv (.tmp 16))]))))))
  (.seq (.reg [.s 4 (.mv (.const (.bool true)))])
  .ret)))), [.t 4]⟩
theorem c_watershedkit_SameHolds : (compF Go.Proofs.Tryz.prog 31).map linF = some ir_watershedkit_SameHolds := by kernel_rfl
def ir_watershedlaw16_HoldsSpans : FIR := ⟨144, (.seq (.reg [.s 4 (.box 31 (.tmp 1)),
 .s 6 (.mv (.const (.bool false)))])
 (.seq (.seq (.reg [.s 18 (.call 9 []),
  .s 19 (.un .not (.tmp 18))])
  (.cnd (.tmp 19) (.seq (.reg [.s 6 (.mv (.const (.bool false)))])
   .ret)
   .skip))
 (.seq (.seq (.reg [.s 20 (.mv (.tmp 0)),
   .s 21 (.call 10 [(.tmp 20), (.const (.int .i64 1500))]),
   .s 22 (.bin .gtr (.tmp 21) (.const (.int .i64 1500))),
   .s 23 (.mv (.tmp 22)),
   .g 24 23 false (.fa 0 (.tmp 4)),
   .g 25 23 false (.ld (.tmp 24)),
   .g 26 23 false (.slen (.tmp 25)),
   .g 27 23 false (.fa 1 (.tmp 4)),
   .g 28 23 false (.ld (.tmp 27)),
   .g 29 23 false (.slen (.tmp 28)),
   .g 30 23 false (.bin .add (.tmp 26) (.tmp 29)),
   .g 31 23 false (.mv (.tmp 2)),
   .g 32 23 false (.slen (.tmp 31)),
   .g 33 23 false (.bin .add (.tmp 30) (.tmp 32)),
   .g 34 23 false (.bin .gtr (.tmp 33) (.const (.int .i64 1500))),
   .s 35 (.pick (.tmp 23) (.const (.bool true)) (.tmp 34))])
  (.cnd (.tmp 35) (.seq (.reg [.s 6 (.mv (.const (.bool true)))])
    .ret)
   .skip))
  (.seq (.reg [.s 36 (.mv (.tmp 0)),
   .s 37 (.call 11 [(.tmp 36)]),
   .s 7 (.mv (.tmp 37))])
  (.seq (.reg [.s 38 (.mv (.tmp 7)),
   .s 39 (.bld [(.string .empty), (.string .empty)] []),
   .s 40 (.call 12 [(.tmp 38), (.tmp 39)]),
   .s 8 (.mv (.tmp 40))])
   (.seq (.reg [.s 41 (.mv (.tmp 7)),
    .s 42 (.ldn 2 (.tmp 4)),
    .s 43 (.call 12 [(.tmp 41), (.tmp 42)]),
    .s 9 (.mv (.tmp 43))])
   (.seq (.seq (.reg [.s 44 (.ldn 2 (.tmp 4)),
     .s 45 (.call 33 [(.tmp 44)]),
     .s 46 (.mv (.tmp 45)),
     .g 47 46 true (.ldn 2 (.tmp 4)),
     .g 48 46 true (.mv (.tmp 2)),
     .g 49 46 true (.call 34 [(.tmp 47), (.tmp 48)]),
     .s 50 (.pick (.tmp 46) (.tmp 49) (.const (.bool false))),
     .s 51 (.mv (.tmp 50)),
     .g 52 51 true (.mv (.tmp 2)),
     .g 53 51 true (.fa 0 (.tmp 4)),
     .g 54 51 true (.ld (.tmp 53)),
     .g 55 51 true (.bin .neq (.tmp 52) (.tmp 54)),
     .s 56 (.pick (.tmp 51) (.tmp 55) (.const (.bool false)))])
    (.cnd (.tmp 56) (.seq (.lin [(false, .s 57 (.mv (.tmp 7))),
      (false, .s 58 (.fa 0 (.tmp 4))),
      (false, .s 59 (.ld (.tmp 58))),
      (false, .s 60 (.mv (.tmp 2))),
      (false, .s 61 (.bld [(.string .empty), (.string .empty)] [(0, 1, (.tmp 59)), (1, 1, (.tmp 60))])),
      (false, .s 63 (.mv (.tmp 7))),
      (false, .s 64 (.mv (.tmp 2))),
      (false, .s 65 (.fa 1 (.tmp 4))),
      (false, .s 66 (.ld (.tmp 65))),
      (false, .s 67 (.bld [(.string .empty), (.string .empty)] [(0, 1, (.tmp 64)), (1, 1, (.tmp 66))])),
      (true, .s 62 (.call 12 [(.tmp 57), (.tmp 61)])),
      (true, .s 68 (.call 12 [(.tmp 63), (.tmp 67)])),
      (false, .s 10 (.mv (.tmp 62))),
      (false, .s 11 (.mv (.tmp 68)))])
      (.seq (.reg [.s 69 (.bsl 35 0 [] []),
       .s 70 (.mv (.tmp 10)),
       .s 71 (.app 35 7 104 [(.string .empty), (.int .i64 0), (.int .i64 0), (.slice none 0 0), (.slice none 0 0), (.bool false), (.string .empty)] (.tmp 69) (.tmp 70)),
       .s 72 (.mv (.tmp 11)),
       .s 73 (.app 35 7 104 [(.string .empty), (.int .i64 0), (.int .i64 0), (.slice none 0 0), (.slice none 0 0), (.bool false), (.string .empty)] (.tmp 71) (.tmp 72)),
       .s 74 (.mv (.tmp 9)),
       .s 75 (.call 31 [(.tmp 73), (.tmp 74)]),
       .s 76 (.un .not (.tmp 75))])
      (.cnd (.tmp 76) (.seq (.reg [.s 6 (.mv (.const (.bool false)))])
        .ret)
       .skip)))
     .skip))
    (.seq (.reg [.s 77 (.mv (.tmp 7)),
     .s 78 (.ldn 2 (.tmp 4)),
     .s 79 (.call 35 [(.tmp 77), (.tmp 78)]),
     .s 12 (.mv (.tmp 79))])
    (.seq (.seq (.reg [.s 80 (.mv (.tmp 12)),
      .s 81 (.mv (.tmp 9)),
      .s 82 (.call 31 [(.tmp 80), (.tmp 81)]),
      .s 83 (.un .not (.tmp 82)),
      .s 84 (.mv (.tmp 83)),
      .g 85 84 false (.mv (.tmp 7)),
      .g 86 84 false (.ldn 2 (.tmp 4)),
      .g 87 84 false (.call 12 [(.tmp 85), (.tmp 86)]),
      .g 88 84 false (.len (.tmp 87)),
      .g 89 84 false (.bin .neq (.tmp 88) (.const (.int .i64 0))),
      .s 90 (.pick (.tmp 84) (.const (.bool true)) (.tmp 89)),
      .s 91 (.mv (.tmp 90)),
      .g 92 91 false (.mv (.tmp 7)),
      .g 93 91 false (.call 16 [(.tmp 92)]),
      .g 94 91 false (.mv (.tmp 8)),
      .g 95 91 false (.len (.tmp 94)),
      .g 96 91 false (.mv (.tmp 12)),
      .g 97 91 false (.len (.tmp 96)),
      .g 98 91 false (.bin .sub (.tmp 95) (.tmp 97)),
      .g 99 91 false (.bin .neq (.tmp 93) (.tmp 98)),
      .s 100 (.pick (.tmp 91) (.const (.bool true)) (.tmp 99)),
      .s 101 (.mv (.tmp 100)),
      .g 102 101 false (.mv (.tmp 7)),
      .g 103 101 false (.mv (.tmp 12)),
      .g 104 101 false (.call 13 [(.tmp 102), (.tmp 103)]),
      .g 105 101 false (.bin .neq (.tmp 104) (.const (.int .i64 0))),
      .s 106 (.pick (.tmp 101) (.const (.bool true)) (.tmp 105)),
      .s 107 (.mv (.tmp 106)),
      .g 108 107 false (.mv (.tmp 7)),
      .g 109 107 false (.bld [(.string .empty), (.string .empty)] []),
      .g 110 107 false (.call 12 [(.tmp 108), (.tmp 109)]),
      .g 111 107 false (.mv (.tmp 8)),
      .g 112 107 false (.call 31 [(.tmp 110), (.tmp 111)]),
      .g 113 107 false (.un .not (.tmp 112)),
      .s 114 (.pick (.tmp 107) (.const (.bool true)) (.tmp 113))])
     (.cnd (.tmp 114) (.seq (.reg [.s 6 (.mv (.const (.bool false)))])
       .ret)
      .skip))
     (.seq (.reg [.s 116 (.call 21 []),
      .s 117 (.mv (.tmp 8)),
      .s 118 (.call 20 [(.tmp 116), (.tmp 117)]),
      .s 119 (.call 22 [(.tmp 118)]),
      .s 115 (.mv (.tmp 119)),
      .s 120 (.ext 0 (.tmp 115)),
      .s 121 (.ext 1 (.tmp 115)),
      .s 13 (.mv (.tmp 120)),
      .s 14 (.mv (.tmp 121))])
     (.seq (.reg [.s 122 (.mv (.tmp 13)),
      .s 123 (.call 28 [(.tmp 122)]),
      .s 15 (.mv (.tmp 123))])
      (.seq (.reg [.s 125 (.mv (.tmp 15)),
       .s 126 (.call 29 [(.tmp 125)]),
       .s 124 (.mv (.tmp 126)),
       .s 127 (.ext 0 (.tmp 124)),
       .s 128 (.ext 1 (.tmp 124)),
       .s 16 (.mv (.tmp 127)),
       .s 17 (.mv (.tmp 128))])
      (.seq (.reg [.s 129 (.mv (.tmp 14)),
       .s 130 (.bin .eql (.tmp 129) (.const (.int .i64 0))),
       .s 131 (.mv (.tmp 130)),
       .g 132 131 true (.mv (.tmp 17)),
       .s 133 (.pick (.tmp 131) (.tmp 132) (.const (.bool false))),
       .s 134 (.mv (.tmp 133)),
       .g 135 134 true (.mv (.tmp 15)),
       .g 136 134 true (.call 36 [(.tmp 135)]),
       .g 137 134 true (.bin .eql (.tmp 136) (.const (.int .i64 0))),
       .s 138 (.pick (.tmp 134) (.tmp 137) (.const (.bool false))),
       .s 139 (.mv (.tmp 138)),
       .g 140 139 true (.mv (.tmp 16)),
       .g 141 139 true (.mv (.tmp 8)),
       .g 142 139 true (.call 31 [(.tmp 140), (.tmp 141)]),
       .s 143 (.pick (.tmp 139) (.tmp 142) (.const (.bool false))),
       .s 6 (.mv (.tmp 143))])
       .ret))))))))))))), [.t 6]⟩
theorem c_watershedlaw16_HoldsSpans : (compF Go.Proofs.Tryz.prog 5).map linF = some ir_watershedlaw16_HoldsSpans := by kernel_rfl
end Go.WK
/-
 The texts in the small language of some loaded functions, each held against the loaded one by the kernel.
-/
namespace Go.WK
open Go
def ir_watershedlaw16_HoldsNil : FIR := ⟨98, (.seq (.reg [.s 4 (.mv (.const (.bool false)))])
 (.seq (.seq (.reg [.s 13 (.call 9 []),
  .s 14 (.un .not (.tmp 13))])
  (.cnd (.tmp 14) (.seq (.reg [.s 4 (.mv (.const (.bool false)))])
   .ret)
   .skip))
 (.seq (.seq (.reg [.s 15 (.mv (.tmp 0)),
   .s 16 (.call 10 [(.tmp 15), (.const (.int .i64 1500))]),
   .s 17 (.bin .gtr (.tmp 16) (.const (.int .i64 1500))),
   .s 18 (.mv (.tmp 17)),
   .g 19 18 false (.mv (.tmp 1)),
   .g 20 18 false (.slen (.tmp 19)),
   .g 21 18 false (.bin .gtr (.tmp 20) (.const (.int .i64 1500))),
   .s 22 (.pick (.tmp 18) (.const (.bool true)) (.tmp 21))])
  (.cnd (.tmp 22) (.seq (.reg [.s 4 (.mv (.const (.bool true)))])
    .ret)
   .skip))
  (.seq (.reg [.s 5 (.mv (.const (.pointer none)))])
  (.seq (.reg [.s 23 (.mv (.tmp 5)),
   .s 24 (.bld [(.slice none 0 0), (.bool false)] []),
   .s 25 (.box 90 (.tmp 24)),
   .s 26 (.bsl 27 2 [(.pointer none), (.pointer none)] [(0, 1, (.tmp 23)), (1, 1, (.tmp 25))]),
   .s 6 (.mv (.tmp 26))])
   (.seq (.seq (.reg [.s 7 (.mv (.const (.int .i64 0)))])
    (.blk 0 (.loop (.seq (.seq (.reg [.s 27 (.mv (.tmp 7)),
      .s 28 (.mv (.tmp 6)),
      .s 29 (.len (.tmp 28)),
      .s 30 (.bin .lss (.tmp 27) (.tmp 29))])
      (.cnd (.tmp 30) .skip
       (.exit 0)))
     (.seq (.blk 1 (.seq (.reg [.s 33 (.mv (.tmp 6)),
       .s 34 (.mv (.tmp 7)),
       .s 35 (.ia 1 (.tmp 33) (.tmp 34)),
       .s 36 (.ld (.tmp 35)),
       .s 8 (.mv (.tmp 36))])
       (.seq (.reg [.s 38 (.mv (.tmp 8)),
        .s 39 (.mv (.tmp 1)),
        .s 40 (.call 14 [(.tmp 38), (.tmp 39)]),
        .s 37 (.mv (.tmp 40)),
        .s 41 (.ext 0 (.tmp 37)),
        .s 42 (.ext 1 (.tmp 37)),
        .s 9 (.new 35 [(.string .empty), (.int .i64 0), (.int .i64 0), (.slice none 0 0), (.slice none 0 0), (.bool false), (.string .empty)]),
        .e (.st 7 (.tmp 9) (.tmp 41)),
        .s 10 (.mv (.tmp 42))])
       (.seq (.reg [.s 44 (.mv (.tmp 8)),
        .s 45 (.bld [(.int .i64 0), (.int .i64 0)] []),
        .s 46 (.mv (.tmp 1)),
        .s 47 (.bsl 9 1 [(.string .empty)] [(0, 1, (.tmp 46))]),
        .s 48 (.call 15 [(.tmp 44), (.tmp 45), (.tmp 47)]),
        .s 43 (.mv (.tmp 48)),
        .s 49 (.ext 0 (.tmp 43)),
        .s 50 (.ext 1 (.tmp 43)),
        .s 11 (.new 24 [(.int .i64 0), (.int .i64 0)]),
        .e (.st 2 (.tmp 11) (.tmp 49)),
        .s 12 (.mv (.tmp 50))])
        (.seq (.reg [.s 51 (.mv (.tmp 10)),
         .s 52 (.mv (.tmp 51)),
         .g 53 52 false (.mv (.tmp 12)),
         .s 54 (.pick (.tmp 52) (.const (.bool true)) (.tmp 53)),
         .s 55 (.mv (.tmp 54)),
         .g 56 55 false (.mv (.tmp 8)),
         .g 57 55 false (.mv (.tmp 0)),
         .g 58 55 false (.call 13 [(.tmp 56), (.tmp 57)]),
         .g 59 55 false (.bin .neq (.tmp 58) (.const (.int .i64 1))),
         .s 60 (.pick (.tmp 55) (.const (.bool true)) (.tmp 59)),
         .s 61 (.mv (.tmp 60)),
         .g 62 61 false (.mv (.tmp 8)),
         .g 63 61 false (.call 16 [(.tmp 62)]),
         .g 64 61 false (.bin .neq (.tmp 63) (.const (.int .i64 0))),
         .s 65 (.pick (.tmp 61) (.const (.bool true)) (.tmp 64)),
         .s 66 (.mv (.tmp 65)),
         .g 67 66 false (.mv (.tmp 8)),
         .g 68 66 false (.call 40 [(.tmp 67)]),
         .g 69 66 false (.eqz .ptr true (.tmp 68) (.const (.pointer none))),
         .s 70 (.pick (.tmp 66) (.const (.bool true)) (.tmp 69)),
         .s 71 (.mv (.tmp 70)),
         .g 72 71 false (.mv (.tmp 8)),
         .g 73 71 false (.bld [(.int .i64 0), (.int .i64 0)] []),
         .g 74 71 false (.call 44 [(.tmp 72), (.tmp 73)]),
         .g 75 71 false (.len (.tmp 74)),
         .g 76 71 false (.mv (.tmp 8)),
         .g 77 71 false (.call 45 [(.tmp 76)]),
         .g 78 71 false (.len (.tmp 77)),
         .g 79 71 false (.bin .add (.tmp 75) (.tmp 78)),
         .g 80 71 false (.mv (.tmp 8)),
         .g 81 71 false (.mv (.tmp 1)),
         .g 82 71 false (.bsl 9 1 [(.string .empty)] [(0, 1, (.tmp 81))]),
         .g 83 71 false (.call 17 [(.tmp 80), (.tmp 82)]),
         .g 84 71 false (.len (.tmp 83)),
         .g 85 71 false (.bin .add (.tmp 79) (.tmp 84)),
         .g 86 71 false (.mv (.tmp 8)),
         .g 87 71 false (.bld [(.string .empty), (.string .empty)] []),
         .g 88 71 false (.call 12 [(.tmp 86), (.tmp 87)]),
         .g 89 71 false (.len (.tmp 88)),
         .g 90 71 false (.bin .add (.tmp 85) (.tmp 89)),
         .g 91 71 false (.mv (.tmp 8)),
         .g 92 71 false (.bld [(.string .empty), (.string .empty)] []),
         .g 93 71 false (.call 35 [(.tmp 91), (.tmp 92)]),
         .g 94 71 false (.len (.tmp 93)),
         .g 95 71 false (.bin .add (.tmp 90) (.tmp 94)),
         .g 96 71 false (.bin .neq (.tmp 95) (.const (.int .i64 0))),
         .s 97 (.pick (.tmp 71) (.const (.bool true)) (.tmp 96))])
        (.cnd (.tmp 97) (.seq (.reg [.s 4 (.mv (.const (.bool false)))])
          .ret)
         .skip))))))
      (.reg [.s 31 (.mv (.tmp 7)),
      .s 32 (.bin .add (.tmp 31) (.const (.int .i64 1))),
      .s 7 (.mv (.tmp 32))]))))))
   (.seq (.reg [.s 4 (.mv (.const (.bool true)))])
    .ret))))))), [.t 4]⟩
theorem c_watershedlaw16_HoldsNil : (compF Go.Proofs.Tryz.prog 7).map linF = some ir_watershedlaw16_HoldsNil := by kernel_rfl
def ir_holds_Holds_Copy : FIR := ⟨15, (.seq (.reg [.s 2 (.mv (.const (.pointer none)))])
 (.seq (.seq (.reg [.s 3 (.mv (.tmp 0)),
  .s 4 (.call 48 [(.tmp 3)]),
  .s 5 (.un .not (.tmp 4))])
  (.cnd (.tmp 5) (.seq (.reg [.s 2 (.mv (.const (.pointer none)))])
   .ret)
   .skip))
 (.seq (.reg [.s 6 (.mv (.tmp 0)),
  .s 7 (.nck (.tmp 6)),
  .s 8 (.fa 0 (.tmp 7)),
  .s 9 (.fa 0 (.tmp 8)),
  .s 10 (.ld (.tmp 9)),
  .s 11 (.call 53 [(.tmp 10)]),
  .s 12 (.bld [(.slice none 0 0)] [(0, 1, (.tmp 11))]),
  .s 13 (.bld [(.slice none 0 0), (.bool false)] [(0, 1, (.tmp 12)), (1, 1, (.const (.bool true)))]),
  .s 14 (.box 90 (.tmp 13)),
  .s 2 (.mv (.tmp 14))])
  .ret))), [.t 2]⟩
theorem c_holds_Holds_Copy : (compF Go.Proofs.Tryz.prog 40).map linF = some ir_holds_Holds_Copy := by kernel_rfl
def ir_holds_Holds_By : FIR := ⟨13, (.seq (.reg [.s 3 (.box 24 (.tmp 1)),
 .s 4 (.mv (.const (.slice none 0 0)))])
 (.seq (.seq (.reg [.s 5 (.mv (.tmp 0)),
  .s 6 (.call 48 [(.tmp 5)]),
  .s 7 (.un .not (.tmp 6))])
  (.cnd (.tmp 7) (.seq (.reg [.s 4 (.mv (.const (.slice none 0 0)))])
   .ret)
   .skip))
 (.seq (.reg [.s 8 (.mv (.tmp 0)),
  .s 9 (.nck (.tmp 8)),
  .s 10 (.fa 0 (.tmp 9)),
  .s 11 (.mkf 98 [(.tmp 3)]),
  .s 12 (.call 49 [(.tmp 10), (.tmp 11)]),
  .s 4 (.mv (.tmp 12))])
  .ret))), [.t 4]⟩
theorem c_holds_Holds_By : (compF Go.Proofs.Tryz.prog 44).map linF = some ir_holds_Holds_By := by kernel_rfl
def ir_holds_Holds_Names : FIR := ⟨29, (.seq (.reg [.s 2 (.mv (.const (.slice none 0 0)))])
 (.seq (.seq (.reg [.s 6 (.mv (.tmp 0)),
  .s 7 (.call 48 [(.tmp 6)]),
  .s 8 (.un .not (.tmp 7))])
  (.cnd (.tmp 8) (.seq (.reg [.s 2 (.mv (.const (.slice none 0 0)))])
   .ret)
   .skip))
 (.seq (.reg [.s 3 (.mv (.const (.slice none 0 0)))])
  (.seq (.seq (.reg [.s 9 (.mv (.tmp 0)),
   .s 10 (.nck (.tmp 9)),
   .s 11 (.fa 0 (.tmp 10)),
   .s 12 (.fa 0 (.tmp 11)),
   .s 13 (.ld (.tmp 12)),
   .s 14 (.len (.tmp 13)),
   .s 15 (.mv (.const (.int .i64 0)))])
   (.blk 0 (.loop (.seq (.reg [.s 16 (.bin .lss (.tmp 15) (.tmp 14))])
    (.seq (.cnd (.tmp 16) .skip
      (.exit 0))
     (.seq (.blk 1 (.seq (.reg [.s 17 (.ia 7 (.tmp 13) (.tmp 15)),
       .s 18 (.ldn 7 (.tmp 17)),
       .s 5 (.new 35 [(.string .empty), (.int .i64 0), (.int .i64 0), (.slice none 0 0), (.slice none 0 0), (.bool false), (.string .empty)]),
       .e (.st 7 (.tmp 5) (.tmp 18))])
      (.reg [.s 19 (.mv (.tmp 3)),
       .s 20 (.fa 1 (.tmp 5)),
       .s 21 (.ldn 2 (.tmp 20)),
       .s 22 (.bsl 24 1 [(.int .i64 0), (.int .i64 0)] [(0, 2, (.tmp 21))]),
       .s 23 (.app 24 2 16 [(.int .i64 0), (.int .i64 0)] (.tmp 19) (.tmp 22)),
       .s 3 (.mv (.tmp 23))])))
     (.reg [.s 24 (.bin .add (.tmp 15) (.const (.int .i64 1))),
      .s 15 (.mv (.tmp 24))])))))))
  (.seq (.reg [.s 25 (.mv (.tmp 3)),
   .s 26 (.call 99 [(.tmp 25), (.func 100)])])
   (.seq (.reg [.s 27 (.mv (.tmp 3)),
    .s 28 (.call 103 [(.tmp 27)]),
    .s 2 (.mv (.tmp 28))])
   .ret)))))), [.t 2]⟩
theorem c_holds_Holds_Names : (compF Go.Proofs.Tryz.prog 45).map linF = some ir_holds_Holds_Names := by kernel_rfl
def ir_holds_Holds_Take : FIR := ⟨13, (.seq (.reg [.s 3 (.box 31 (.tmp 1)),
 .s 4 (.mv (.const (.slice none 0 0)))])
 (.seq (.seq (.reg [.s 5 (.mv (.tmp 0)),
  .s 6 (.call 48 [(.tmp 5)]),
  .s 7 (.un .not (.tmp 6))])
  (.cnd (.tmp 7) (.seq (.reg [.s 4 (.mv (.const (.slice none 0 0)))])
   .ret)
   .skip))
 (.seq (.reg [.s 8 (.mv (.tmp 0)),
  .s 9 (.nck (.tmp 8)),
  .s 10 (.fa 0 (.tmp 9)),
  .s 11 (.mkf 85 [(.tmp 3)]),
  .s 12 (.call 56 [(.tmp 10), (.tmp 11)]),
  .s 4 (.mv (.tmp 12))])
  .ret))), [.t 4]⟩
theorem c_holds_Holds_Take : (compF Go.Proofs.Tryz.prog 35).map linF = some ir_holds_Holds_Take := by kernel_rfl
end Go.WK
