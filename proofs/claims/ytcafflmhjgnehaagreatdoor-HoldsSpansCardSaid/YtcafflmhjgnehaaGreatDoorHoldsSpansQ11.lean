/-
  HoldsSpans: holds of a table in the document's shape, spans of them, taken and put back, written and read again. Part 12 of 14.
-/
import Derived.Test.YtcafflmhjgnehaaGreatDoorHoldsSpansQ8
import Derived.Test.YtcafflmhjgnehaaGreatDoorHoldsSpansQ4
import Derived.RangeFuncBox
import Derived.RangeFuncLeaves
import Derived.RangeFuncNested
import Derived.RangeFuncBound
import Derived.RangeFuncCalls
import Derived.Shelf.Abstract
import Derived.WalkKit
import Derived.OwnWalkIn
import Derived.TacticsInMore
import Derived.LoopNIn
import Derived.LoopIn
import Derived.Test.YtcafflmhjgnehaaGreatDoorHoldsSpansQ6
import Derived.Test.YtcafflmhjgnehaaGreatDoorHoldsSpansQ7
set_option linter.unusedSimpArgs false
set_option linter.unusedVariables false
set_option linter.defProp false
set_option maxRecDepth 100000
/-
  Sorted texts: by the shelf.
-/
namespace Go.Proofs
open Go.RowKit Go.Maps Go.Sort Go.Shelf
theorem Tryz.sortsS (m : Nat) : AnyZ.SortsIn Tryz.prog Tryz.sortedS_ren Fence.wide m :=
  ⟨fun blk off cap ss W hH hblk hsz => callsIn_wide.2 (AnyM.slices_Sort_string Tryz.sortS blk off cap ss W hH hblk hsz),
   fun p cap W => callsIn_wide.2 (AnyM.slices_Sort_string_none Tryz.sortS p cap W)⟩

attribute [local go_sem] Oper.semAt_some
set_option maxRecDepth 100000 in
set_option maxHeartbeats 2000000 in
/-- slices.Values's closure at a slice of one text. -/
theorem Tryz.values_one (Bs b off cap : Nat) (x : List UInt8) (w : World) (hB : Bs < w.heap.size) (hb : b < w.heap.size) (hBs : w.cell? ⟨Bs, 0, none⟩ = some (.slice (some ⟨b, off, none⟩) 1 cap)) (hc : w.cell? ⟨b, off, none⟩ = some (encStr x)) :
    SeqGives Fence.wide 2 Tryz.prog 112 #[.pointer (some ⟨Bs, 0, none⟩)] encStr (fun ys => ys = [x]) 1 w := fun l J W hW hJ hY h0 => by
  have hBs' := (hW.cell (p := ⟨Bs, 0, none⟩) hB).trans hBs
  have hc' := (hW.cell (p := ⟨b, off, none⟩) hb).trans hc
  refine callsIn_of_wp Tryz.func112 rfl trivial ?_ rfl
  simp only [Tryz.ntmps112, List.size_toArray, List.length_cons, List.length_nil, Nat.reduceAdd, Nat.reduceSub, Array.replicate_succ, Array.replicate_zero, List.push_toArray, List.append_toArray, List.nil_append, List.cons_append]
  gi_wp2
  gi_loopw [7] (fun i wr => (i = .int .i64 0 ∧ wr = W) ∨ (i = .int .i64 1 ∧ J [x] wr)) (fun i _ => 1 - (intOf i).toNat)
  case atStart => exact .inl ⟨rfl, rfl⟩
  case round =>
    rcases hrel with ⟨rfl, rfl⟩ | ⟨rfl, hJs⟩
    · obtain ⟨fn, tmps, assign, body, hy, hR⟩ := hY [] x wr h0 (by decide)
      gi_wp2
      refine hR.mono ?_
      rintro e W3 ⟨rfl, hJ3, hk3⟩
      gi_wp2
      go_roundw
      case rel => exact .inr ⟨by simp, hJ3⟩
      case measure => simp [intOf]
    · gi_wp2
      go_end0
      exact ⟨⟨_, rfl⟩, _, rfl, hJs⟩

end Go.Proofs
namespace Go.WK
open Go Go.Proofs
/-- One text, sorted. -/
theorem sorted1_cl {H : Hp} {B b off c : Nat} {x : ByteArray} (hB : cell H B 0 = some (.slice (some ⟨b, off, none⟩) 1 c)) (hx : cell H b off = some (.string x)) (hs : Sz x) :
    Cl Tryz.prog 54 [.func (.func 112) #[] #[.pointer (some ⟨B, 0, none⟩)]] H fun r H' => StrSl (fun y => H.size ≤ y ∧ y < H'.size) H' r [x] ∧ Ext H H' := by
  refine .inl ⟨by kernel_rfl, fun w hw => ?_⟩
  subst hw
  have hseq := Tryz.values_one B b off c x.data.toList w (cell_lt hB) (cell_lt hx) (by rw [cell?_eq]; exact hB) (by rw [cell?_eq, hx]; done)
  have cS := Go.Proofs.AnyZ.sorted_in Tryz.sortedS Fence.wide 5 trivial trivial trivial trivial rfl (by omega) (Tryz.sortsS _) (enters_of Tryz.func111 (by kernel_rfl) rfl) 112 #[.pointer (some ⟨B, 0, none⟩)] trivial (enters_of Tryz.func112 (by kernel_rfl) rfl) _ 1 (by decide) (by decide) _ hseq
  have cS' := callsIn_wide.1 cS
  refine Calls.mono cS' ?_
  rintro e w' ⟨v, ss, rfl, rfl, hrow, hnil, hb⟩
  refine ⟨⟨hb.os, hb.tape, hb.output⟩, v, rfl, ?_, hb.size, fun k hk => hb.block k hk⟩
  rcases hrow.2 with ⟨_, hz⟩ | ⟨g, cap, cur, rfl, hbase, hg, r1, r2, r3, r4⟩
  · cases hz
  have hgl : g < w'.heap.size := (Array.getElem?_eq_some_iff.1 hg).1
  refine ⟨(by decide : (1 : Nat) ≤ big), .inr ⟨g, 0, cap, rfl, r1, fun i hi => ?_⟩⟩
  have hi0 : i = 0 := by simp at hi; omega
  subst hi0
  refine ⟨⟨hbase, hgl⟩, [.string x], ?_, rfl, hs⟩
  refine rdn_of rfl fun j hj => ?_
  have hj0 : j = 0 := by omega
  subst hj0
  have hcur : cur.toList[0]? = some (.string x) := by
    have h1 := congrArg (fun l => l[0]?) r4
    simp only [List.getElem?_take] at h1
    simpa [encStr] using h1
  unfold cell
  rw [hg]
  simpa using hcur
end Go.WK
/-
  Who is busy; the document's example.
-/
namespace Go.WK
open Go Go.Proofs

theorem Values_cl {H : Hp} {a : Option Addr} {n c : Nat} : Cl Tryz.prog 55 [.slice a n c] H fun r H' => r = .func (.func 112) #[] #[.pointer (some ⟨H.size, 0, none⟩)] ∧ H' = H.push (.cells [Value.slice a n c].toArray 74) := by
  refine cl_of mixed c_slices_Values_string (Nat.le_of_ble_eq_true rfl) ?_
  simp only [fwp, ir_slices_Values_string, argF, Nat.reduceAdd]
  refine w_reg fun K hK => ?_
  simp (disch := omega) only [↓wD, ↓i_cbs, ↓i_csk, wU, b_and, b_or, b_shl, b_shr, Nat.reduceBEq, reduceCtorEq, Int.reduceEq, Int.reduceLT, Int.reduceLE, Int.reduceNeg, Value.cells, Value.oneCell', Nat.reduceAdd, Nat.reduceEqDiff, fillL, setL, Nat.reduceLeDiff, ]
  refine hK _ _ ?_
  clear hK K
  refine w_reg fun K hK => ?_
  simp (disch := omega) only [↓wD, ↓i_cbs, ↓i_csk, wU, b_and, b_or, b_shl, b_shr, Nat.reduceBEq, reduceCtorEq, Int.reduceEq, Int.reduceLT, Int.reduceLE, Int.reduceNeg, Value.cells, Value.oneCell', Nat.reduceAdd, Nat.reduceEqDiff, fillL, setL, Nat.reduceLeDiff, ]
  refine hK _ _ ?_
  clear hK K
  refine w_ret ?_
  repeat (first | with_reducible refine q_n ?_ | with_reducible refine q_e ?_ | with_reducible refine q_r ?_ | with_reducible refine bq_n ?_ | with_reducible refine bq_e ?_ | with_reducible refine bq_r ?_ | with_reducible refine bq_o rfl ?_)
  refine ret1 (by (try simp only [ev_tmp, ev_const, upd_apply, Nat.reduceBEq, cond_true, cond_false, ]); rfl) ?_
  exact ⟨rfl, rfl⟩
theorem sorted_unique {L : List Hd} (hs : Sorted L) {x y : Hd} (hx : x ∈ L) (hy : y ∈ L) (h : x.key = y.key) : x = y := by
  obtain ⟨i, hi, rfl⟩ := List.getElem_of_mem hx
  obtain ⟨j, hj, rfl⟩ := List.getElem_of_mem hy
  rcases Nat.lt_trichotomy i j with h1 | rfl | h1
  · have := hs.get hi hj h1
    rw [h, sless_irrefl] at this; cases this
  · rfl
  · have := hs.get hj hi h1
    rw [h, sless_irrefl] at this; cases this

theorem Busy_cl {M G S : Nat → Prop} {H : Hp} {p : Nat} {L : List Hd} {v vk : Value} {key : ByteArray} (n : Nm) (hT : Tab M G H p L v) (hs : Sorted L) (hm : Sm L) (hk : StrSl S H vk [key]) :
    Cl Tryz.prog 15 [.pointer (some ⟨p, 0, none⟩), .agg #[.int .i64 n.client, .int .i64 n.num], vk] H fun r H' => Ext H H' ∧ ∃ (a : Nm) (b : Bool), r = .tuple #[.agg #[.int .i64 a.client, .int .i64 a.num], .bool b] ∧
      ((b = true ∧ ∃ x ∈ L, x.key = key ∧ x.name ≠ n ∧ a = x.name) ∨ (b = false ∧ a = ⟨0, 0⟩ ∧ ∀ x ∈ L, x.key = key → x.name = n)) := by
  refine cl_of mixed c_holds_Holds_Busy (Nat.le_of_ble_eq_true rfl) ?_
  simp only [fwp, ir_holds_Holds_Busy, argF, Nat.reduceAdd]
  obtain ⟨ka, kc, rfl, hkc, -, hkel⟩ := SlP.open hk
  obtain ⟨kb, ko, rfl, hkS, kcs, hkr, rfl, hsz⟩ := hkel 0 (by simp)
  have hkx := rdn1 hkr
  simp only [Nat.zero_mul, Nat.add_zero, List.getElem_cons_zero] at hkx hsz
  simp only [List.length_cons, List.length_nil, Nat.zero_add] at hkc ⊢
  have hkb := cell_lt hkx
  refine w_reg fun K hK => ?_
  simp (disch := omega) only [↓wD, ↓i_cbs, ↓i_csk, wU, b_and, b_or, b_shl, b_shr, Nat.reduceBEq, reduceCtorEq, Int.reduceEq, Int.reduceLT, Int.reduceLE, Int.reduceNeg, Value.cells, Value.oneCell', Nat.reduceAdd, Nat.reduceEqDiff, fillL, setL, Nat.reduceLeDiff, ]
  refine hK _ _ ?_
  clear hK K
  generalize hH0 : (H.push (.cells #[.int .i64 n.client, .int .i64 n.num] 24)).push (.cells #[.int .i64 0, .int .i64 0] 24) = H0
  have hE0 : Ext H H0 := by subst hH0; exact ((Ext.refl _).push _).push _
  have hcn : rdn H0 H.size 0 2 = some [.int .i64 n.client, .int .i64 n.num] := by
    subst hH0; exact rdn_ext ((Ext.refl _).push _) (rdn_new H [_, _] 24 0 2 (Nat.le_refl _))
  have hc6 : ∀ j, j < 2 → cell H0 (H.size + 1) j = some (.int .i64 0) := by
    subst hH0
    intro j hj
    have := cell_new (H.push (.cells #[.int .i64 n.client, .int .i64 n.num] 24)) [.int .i64 0, .int .i64 0] 24 j
    simp only [Array.size_push] at this
    rw [this]
    match j, hj with
    | 0, _ => rfl
    | 1, _ => rfl
  have hf6 : ∀ j, frz H0 (H.size + 1) j = false := by
    subst hH0
    intro j
    have := frz_new (H.push (.cells #[.int .i64 n.client, .int .i64 n.num] 24)) [.int .i64 0, .int .i64 0] 24 j
    simpa only [Array.size_push] using this
  have hz0 : H0.size = H.size + 2 := by subst hH0; simp
  clear hH0
  obtain ⟨cn0, cn1⟩ := rdn2 hcn
  refine w_seq (w_seq ?_)
  refine w_reg fun K hK => ?_
  simp (disch := omega) only [↓wD, ↓i_cbs, ↓i_csk, wU, b_and, b_or, b_shl, b_shr, Nat.reduceBEq, reduceCtorEq, Int.reduceEq, Int.reduceLT, Int.reduceLE, Int.reduceNeg, Value.cells, Value.oneCell', Nat.reduceAdd, Nat.reduceEqDiff, fillL, setL, Nat.reduceLeDiff, ]
  refine w_call (Values_cl) ?_
  rintro _ H1 ⟨rfl, rfl⟩
  simp (disch := omega) only [↓wD, ↓i_cbs, ↓i_csk, wU, b_and, b_or, b_shl, b_shr, Nat.reduceBEq, reduceCtorEq, Int.reduceEq, Int.reduceLT, Int.reduceLE, Int.reduceNeg, Value.cells, Value.oneCell', Nat.reduceAdd, Nat.reduceEqDiff, fillL, setL, Nat.reduceLeDiff, ]
  have hE1 : Ext H0 (H0.push (.cells [Value.slice (some ⟨kb, ko, none⟩) 1 kc].toArray 74)) := (Ext.refl _).push _
  have hB1 : cell (H0.push (.cells [Value.slice (some ⟨kb, ko, none⟩) 1 kc].toArray 74)) H0.size 0 = some (.slice (some ⟨kb, ko, none⟩) 1 kc) := cell_new _ _ _ 0
  generalize H0.push (.cells [Value.slice (some ⟨kb, ko, none⟩) 1 kc].toArray 74) = H1 at hE1 hB1 ⊢
  have hE01 := hE0.trans hE1
  refine w_call (sorted1_cl hB1 ((hE01.cell kb ko hkb).trans hkx) hsz) ?_
  rintro _ H2 ⟨hss, hE2⟩
  obtain ⟨sa, sc, rfl, hsc, -, hsel⟩ := SlP.open hss
  obtain ⟨sb, so, rfl, -, scs, hsr, rfl, -⟩ := hsel 0 (by simp)
  have hsx := rdn1 hsr
  simp only [Nat.zero_mul, Nat.add_zero, List.getElem_cons_zero] at hsx
  simp only [List.length_cons, List.length_nil, Nat.zero_add] at hsc ⊢
  simp (disch := omega) only [↓wD, ↓i_cbs, ↓i_csk, wU, b_and, b_or, b_shl, b_shr, Nat.reduceBEq, reduceCtorEq, Int.reduceEq, Int.reduceLT, Int.reduceLE, Int.reduceNeg, Value.cells, Value.oneCell', Nat.reduceAdd, Nat.reduceEqDiff, fillL, setL, Nat.reduceLeDiff, cast1]
  refine hK _ _ ?_
  clear hK K
  have hE02 := hE01.trans hE2
  have hE12 : Ext H0 H2 := hE1.trans hE2
  have two : ∀ {HX : Hp}, Ext H0 HX → Own HX (H.size + 1) 0 2 := fun {HX} hX j hj => by
    rw [Nat.zero_add, hX.cell (H.size + 1) j (by omega), hc6 j hj, frz_block (hX.2 (H.size + 1) (by omega)), hf6]
    exact ⟨rfl, rfl⟩
  refine w_blk (w_loop (fun n' f H' => Ext H2 H' ∧ f 0 = .pointer (some ⟨p, 0, none⟩) ∧ f 4 = .pointer (some ⟨H.size, 0, none⟩) ∧ f 6 = .pointer (some ⟨H.size + 1, 0, none⟩) ∧ f 14 = .slice (some ⟨sb, so, none⟩) 1 sc ∧ f 15 = .int .i64 1 ∧ ((f 16 = .int .i64 0 ∧ n' = 1) ∨ (f 16 = .int .i64 1 ∧ n' = 0 ∧ ∀ x ∈ L, x.key = key → x.name = n))) 1 ⟨Ext.refl _, (by simp only [ev_tmp, ev_const, upd_apply, Nat.reduceBEq, cond_true, cond_false, ]), (by simp only [ev_tmp, ev_const, upd_apply, Nat.reduceBEq, cond_true, cond_false, ]), (by simp only [ev_tmp, ev_const, upd_apply, Nat.reduceBEq, cond_true, cond_false, ]), (by simp only [ev_tmp, ev_const, upd_apply, Nat.reduceBEq, cond_true, cond_false, ]), (by simp only [ev_tmp, ev_const, upd_apply, Nat.reduceBEq, cond_true, cond_false, ]), .inl ⟨rfl, rfl⟩⟩ ?_)
  rintro n' f H' ⟨hE, f0, f4, f6, f14, f15, ⟨f16, rfl⟩ | ⟨f16, rfl, hno⟩⟩
  · have h01 : ((0 : Int) < 1) = True := by simp
    have h01n : ((0 : Int) < ((1 : Nat) : Int)) = True := by simp
    have t0 : (0 : Int).toNat = 0 := rfl
    have hsx' := (hE.cell sb so (cell_lt hsx)).trans hsx
    refine w_reg fun K hK => ?_
    simp (disch := omega) only [↓wD, ↓i_cbs, ↓i_csk, wU, b_and, b_or, b_shl, b_shr, Nat.reduceBEq, reduceCtorEq, Int.reduceEq, Int.reduceLT, Int.reduceLE, Int.reduceNeg, Value.cells, Value.oneCell', Nat.reduceAdd, Nat.reduceEqDiff, fillL, setL, Nat.reduceLeDiff, f15, f16, h01]
    refine hK _ _ ?_
    clear hK K
    refine w_seq ?_
    refine w_true (by simp only [ev_tmp, ev_const, upd_apply, Nat.reduceBEq, cond_true, cond_false, Bool.not_true, Bool.not_false, ]) ?_
    refine w_skip ?_
    repeat (first | with_reducible refine q_n ?_ | with_reducible refine q_e ?_ | with_reducible refine q_r ?_ | with_reducible refine bq_n ?_ | with_reducible refine bq_e ?_ | with_reducible refine bq_r ?_ | with_reducible refine bq_o rfl ?_)
    refine w_seq (w_blk ?_)
    refine w_reg fun K hK => ?_
    simp (disch := omega) only [↓wD, ↓i_cbs, ↓i_csk, wU, b_and, b_or, b_shl, b_shr, Nat.reduceBEq, reduceCtorEq, Int.reduceEq, Int.reduceLT, Int.reduceLE, Int.reduceNeg, Value.cells, Value.oneCell', Nat.reduceAdd, Nat.reduceEqDiff, fillL, setL, Nat.reduceLeDiff, f14, f16, h01, h01n, hsx', t0, Nat.zero_lt_one]
    refine hK _ _ ?_
    clear hK K
    refine w_reg fun K hK => ?_
    simp (disch := omega) only [↓wD, ↓i_cbs, ↓i_csk, wU, b_and, b_or, b_shl, b_shr, Nat.reduceBEq, reduceCtorEq, Int.reduceEq, Int.reduceLT, Int.reduceLE, Int.reduceNeg, Value.cells, Value.oneCell', Nat.reduceAdd, Nat.reduceEqDiff, fillL, setL, Nat.reduceLeDiff, f0]
    have hEA := hE02.trans hE
    refine w_call (Of_cl key (hT.ext hEA) hs hm) ?_
    rintro _ H3 ⟨hE3, x, cs, G2, rfl, he, -, hx⟩
    have he' := he
    obtain ⟨va, vr, ecs, ha, hr, hnm, hsk, hsv⟩ := he'
    obtain ⟨xa, ca, rfl, hca, -⟩ := ha.form
    obtain ⟨xr, cr, rfl, hcr, -⟩ := hr.form
    rw [ecs]
    simp (disch := omega) only [↓wD, ↓i_cbs, ↓i_csk, wU, b_and, b_or, b_shl, b_shr, Nat.reduceBEq, reduceCtorEq, Int.reduceEq, Int.reduceLT, Int.reduceLE, Int.reduceNeg, Value.cells, Value.oneCell', Nat.reduceAdd, Nat.reduceEqDiff, fillL, setL, Nat.reduceLeDiff, ]
    refine hK _ _ ?_
    clear hK K
    have hEB : Ext H3 (H3.push (.cells cs.toArray 35)) := (Ext.refl _).push _
    have hr0 : rdn (H3.push (.cells cs.toArray 35)) H3.size 0 7 = some cs := by
      rw [rdn_new H3 cs 35 0 7 (by rw [he.len]; omega), List.drop_zero, List.take_of_length_le (by rw [he.len]; omega)]
    rw [← ecs]
    generalize H3.push (.cells cs.toArray 35) = H4 at hEB hr0 ⊢
    rw [ecs] at hr0
    obtain ⟨d0, d1, d2, d3, d4, d5, d6⟩ := rdn7 hr0
    have hEC : Ext H0 H4 := ((hE12.trans hE).trans hE3).trans hEB
    have cn0' := (hEC.cell H.size 0 (by omega)).trans cn0
    have cn1' := (hEC.cell H.size (0 + 1) (by omega)).trans cn1
    have hE2C : Ext H2 H4 := (hE.trans hE3).trans hEB
    have hEH : Ext H H4 := hE0.trans hEC
    have next : ∀ (g : Fr), g 0 = .pointer (some ⟨p, 0, none⟩) → g 4 = .pointer (some ⟨H.size, 0, none⟩) → g 6 = .pointer (some ⟨H.size + 1, 0, none⟩) → g 14 = .slice (some ⟨sb, so, none⟩) 1 sc → g 15 = .int .i64 1 → g 16 = .int .i64 0 → (∀ x ∈ L, x.key = key → x.name = n) → cwp Tryz.prog (.reg [O.s 35 (I.bin .add (.tmp 16) (.const (.int .i64 1))), O.s 16 (I.mv (.tmp 35))]) g H4 (fun e f' H' => e = .normal ∧ ∃ m, m < 1 ∧ Ext H2 H' ∧ f' 0 = .pointer (some ⟨p, 0, none⟩) ∧ f' 4 = .pointer (some ⟨H.size, 0, none⟩) ∧ f' 6 = .pointer (some ⟨H.size + 1, 0, none⟩) ∧ f' 14 = .slice (some ⟨sb, so, none⟩) 1 sc ∧ f' 15 = .int .i64 1 ∧ ((f' 16 = .int .i64 0 ∧ m = 1) ∨ (f' 16 = .int .i64 1 ∧ m = 0 ∧ ∀ x ∈ L, x.key = key → x.name = n))) := by
      intro g g0 g4 g6 g14 g15 g16 hn
      have hw1 : IntKind.i64.wrap (0 + 1) = 1 := by rw [wr64 (by omega) (by omega)]; rfl
      refine w_reg1 fun K hK => ?_
      simp (disch := omega) only [↓wD, ↓i_cbs, ↓i_csk, wU, b_and, b_or, b_shl, b_shr, Nat.reduceBEq, reduceCtorEq, Int.reduceEq, Int.reduceLT, Int.reduceLE, Int.reduceNeg, Value.cells, Value.oneCell', Nat.reduceAdd, Nat.reduceEqDiff, fillL, setL, Nat.reduceLeDiff, g16, hw1]
      refine hK _ _ ?_
      clear hK K
      exact ⟨rfl, 0, by decide, hE2C, (by simp only [ev_tmp, ev_const, upd_apply, Nat.reduceBEq, cond_true, cond_false, g0]), (by simp only [ev_tmp, ev_const, upd_apply, Nat.reduceBEq, cond_true, cond_false, g4]), (by simp only [ev_tmp, ev_const, upd_apply, Nat.reduceBEq, cond_true, cond_false, g6]), (by simp only [ev_tmp, ev_const, upd_apply, Nat.reduceBEq, cond_true, cond_false, g14]), (by simp only [ev_tmp, ev_const, upd_apply, Nat.reduceBEq, cond_true, cond_false, g15]), .inr ⟨(by simp only [ev_tmp, ev_const, upd_apply, Nat.reduceBEq, cond_true, cond_false, ]), rfl, hn⟩⟩
    have go : ∀ {c : C} {f : Fr} {H : Hp} {R : Ex → Fr → Hp → Prop} {N : Fr → Hp → Prop}, cwp Tryz.prog c f H (fun e f H => e = .normal ∧ N f H) → (∀ f H, N f H → R .normal f H) → cwp Tryz.prog c f H R := by
      intro c f H R N h hn
      refine w_mono ?_ h
      rintro e f H ⟨rfl, h⟩
      exact hn f H h
    cases hh : hasK L key with
    | false =>
      refine w_reg fun K hK => ?_
      simp (disch := omega) only [↓wD, ↓i_cbs, ↓i_csk, wU, b_and, b_or, b_shl, b_shr, Nat.reduceBEq, reduceCtorEq, Int.reduceEq, Int.reduceLT, Int.reduceLE, Int.reduceNeg, Value.cells, Value.oneCell', Nat.reduceAdd, Nat.reduceEqDiff, fillL, setL, Nat.reduceLeDiff, ]
      refine hK _ _ ?_
      clear hK K
      refine w_false (by simp only [ev_tmp, ev_const, upd_apply, Nat.reduceBEq, cond_true, cond_false, Bool.not_true, Bool.not_false, ]) ?_
      refine w_skip ?_
      repeat (first | with_reducible refine q_n ?_ | with_reducible refine q_e ?_ | with_reducible refine q_r ?_ | with_reducible refine bq_n ?_ | with_reducible refine bq_e ?_ | with_reducible refine bq_r ?_ | with_reducible refine bq_o rfl ?_)
      refine go (next _ (by simp only [ev_tmp, ev_const, upd_apply, Nat.reduceBEq, cond_true, cond_false, f0]) (by simp only [ev_tmp, ev_const, upd_apply, Nat.reduceBEq, cond_true, cond_false, f4]) (by simp only [ev_tmp, ev_const, upd_apply, Nat.reduceBEq, cond_true, cond_false, f6]) (by simp only [ev_tmp, ev_const, upd_apply, Nat.reduceBEq, cond_true, cond_false, f14]) (by simp only [ev_tmp, ev_const, upd_apply, Nat.reduceBEq, cond_true, cond_false, f15]) (by simp only [ev_tmp, ev_const, upd_apply, Nat.reduceBEq, cond_true, cond_false, f16]) fun y hy hyk => ?_) ?_
      · have := hasK_iff.2 ⟨y, hy, hyk⟩
        rw [hh] at this; cases this
      · intro f H h
        exact h
    | true =>
      rw [hh] at hx
      simp only [if_true] at hx
      by_cases hnm' : x.name = n
      · have hq : (decide (x.name.client = n.client) && (decide (x.name.num = n.num) && true)) = true := by rw [hnm']; simp
        have hq' : (decide (x.name.client = n.client) && decide (x.name.num = n.num)) = true := by rw [hnm']; simp
        refine w_reg fun K hK => ?_
        simp (disch := omega) only [↓wD, ↓i_cbs, ↓i_csk, wU, b_and, b_or, b_shl, b_shr, Nat.reduceBEq, reduceCtorEq, Int.reduceEq, Int.reduceLT, Int.reduceLE, Int.reduceNeg, Value.cells, Value.oneCell', Nat.reduceAdd, Nat.reduceEqDiff, fillL, setL, Nat.reduceLeDiff, f4, d1, d2, cn0', cn1', leavesEq, leafEq, hq, hq']
        refine hK _ _ ?_
        clear hK K
        refine w_false (by simp only [ev_tmp, ev_const, upd_apply, Nat.reduceBEq, cond_true, cond_false, Bool.not_true, Bool.not_false, ]) ?_
        refine w_skip ?_
        repeat (first | with_reducible refine q_n ?_ | with_reducible refine q_e ?_ | with_reducible refine q_r ?_ | with_reducible refine bq_n ?_ | with_reducible refine bq_e ?_ | with_reducible refine bq_r ?_ | with_reducible refine bq_o rfl ?_)
        refine go (next _ (by simp only [ev_tmp, ev_const, upd_apply, Nat.reduceBEq, cond_true, cond_false, f0]) (by simp only [ev_tmp, ev_const, upd_apply, Nat.reduceBEq, cond_true, cond_false, f4]) (by simp only [ev_tmp, ev_const, upd_apply, Nat.reduceBEq, cond_true, cond_false, f6]) (by simp only [ev_tmp, ev_const, upd_apply, Nat.reduceBEq, cond_true, cond_false, f14]) (by simp only [ev_tmp, ev_const, upd_apply, Nat.reduceBEq, cond_true, cond_false, f15]) (by simp only [ev_tmp, ev_const, upd_apply, Nat.reduceBEq, cond_true, cond_false, f16]) fun y hy hyk => ?_) ?_
        · rw [sorted_unique hs hy hx.1 (hyk.trans hx.2.symm)]; exact hnm'
        · intro f H h
          exact h
      · have hq' : (decide (x.name.client = n.client) && decide (x.name.num = n.num)) = false := by
          cases h : (decide (x.name.client = n.client) && decide (x.name.num = n.num)) with
          | false => rfl
          | true =>
            simp only [Bool.and_eq_true, decide_eq_true_eq] at h
            exact absurd (by cases hx1 : x.name; cases n; simp_all) hnm'
        have hq : (decide (x.name.client = n.client) && (decide (x.name.num = n.num) && true)) = false := by rw [Bool.and_true]; exact hq'
        refine w_reg fun K hK => ?_
        simp (disch := omega) only [↓wD, ↓i_cbs, ↓i_csk, wU, b_and, b_or, b_shl, b_shr, Nat.reduceBEq, reduceCtorEq, Int.reduceEq, Int.reduceLT, Int.reduceLE, Int.reduceNeg, Value.cells, Value.oneCell', Nat.reduceAdd, Nat.reduceEqDiff, fillL, setL, Nat.reduceLeDiff, f4, d1, d2, cn0', cn1', leavesEq, leafEq, hq, hq']
        refine hK _ _ ?_
        clear hK K
        refine w_true (by simp only [ev_tmp, ev_const, upd_apply, Nat.reduceBEq, cond_true, cond_false, Bool.not_true, Bool.not_false, ]) ?_
        obtain ⟨H5, hw, hW⟩ := wrn_ok (H := H4) (b := H.size + 1) (o := 0) (l := [.int .i64 x.name.client, .int .i64 x.name.num]) (two hEC) (by intro v hv; simp at hv; rcases hv with rfl | rfl <;> rfl)
        have hr5 := hW.rdn_at
        have hr5' : rdn H5 (H.size + 1) 0 2 = some [.int .i64 x.name.client, .int .i64 x.name.num] := hr5
        obtain ⟨q0, q1⟩ := rdn2 hr5'
        refine w_reg fun K hK => ?_
        simp (disch := omega) only [↓wD, ↓i_cbs, ↓i_csk, wU, b_and, b_or, b_shl, b_shr, Nat.reduceBEq, reduceCtorEq, Int.reduceEq, Int.reduceLT, Int.reduceLE, Int.reduceNeg, Value.cells, Value.oneCell', Nat.reduceAdd, Nat.reduceEqDiff, fillL, setL, Nat.reduceLeDiff, f6, d1, d2, hw]
        refine hK _ _ ?_
        clear hK K
        refine w_ret ?_
        repeat (first | with_reducible refine q_n ?_ | with_reducible refine q_e ?_ | with_reducible refine q_r ?_ | with_reducible refine bq_n ?_ | with_reducible refine bq_e ?_ | with_reducible refine bq_r ?_ | with_reducible refine bq_o rfl ?_)
        refine retG (v := .tuple #[.agg #[.int .i64 x.name.client, .int .i64 x.name.num], .bool true]) (by simp (disch := omega) only [resV, rvsV, rvV, oneOr, ↓wD, ↓i_cbs, ↓i_csk, wU, b_and, b_or, b_shl, b_shr, Nat.reduceBEq, reduceCtorEq, Int.reduceEq, Int.reduceLT, Int.reduceLE, Int.reduceNeg, Value.cells, Value.oneCell', Nat.reduceAdd, Nat.reduceEqDiff, fillL, setL, Nat.reduceLeDiff, f6, rd2, q0, q1]) ?_
        refine ⟨hW.ext hEH (by omega), x.name, true, rfl, .inl ⟨rfl, x, hx.1, hx.2, hnm', rfl⟩⟩
  · have h11 : ((1 : Int) < 1) = False := by simp
    refine w_reg fun K hK => ?_
    simp (disch := omega) only [↓wD, ↓i_cbs, ↓i_csk, wU, b_and, b_or, b_shl, b_shr, Nat.reduceBEq, reduceCtorEq, Int.reduceEq, Int.reduceLT, Int.reduceLE, Int.reduceNeg, Value.cells, Value.oneCell', Nat.reduceAdd, Nat.reduceEqDiff, fillL, setL, Nat.reduceLeDiff, f15, f16, h11]
    refine hK _ _ ?_
    clear hK K
    refine w_seq ?_
    refine w_false (by simp only [ev_tmp, ev_const, upd_apply, Nat.reduceBEq, cond_true, cond_false, Bool.not_true, Bool.not_false, ]) ?_
    refine w_exit ?_
    repeat (first | with_reducible refine q_n ?_ | with_reducible refine q_e ?_ | with_reducible refine q_r ?_ | with_reducible refine bq_n ?_ | with_reducible refine bq_e ?_ | with_reducible refine bq_r ?_ | with_reducible refine bq_o rfl ?_)
    obtain ⟨H5, hw, hW⟩ := wrn_ok (H := H') (b := H.size + 1) (o := 0) (l := [.int .i64 0, .int .i64 0]) (two (hE12.trans hE)) (by intro v hv; simp at hv; subst hv; rfl)
    have hr5 := hW.rdn_at
    have hr5' : rdn H5 (H.size + 1) 0 2 = some [.int .i64 0, .int .i64 0] := hr5
    obtain ⟨q0, q1⟩ := rdn2 hr5'
    refine w_reg fun K hK => ?_
    simp (disch := omega) only [↓wD, ↓i_cbs, ↓i_csk, wU, b_and, b_or, b_shl, b_shr, Nat.reduceBEq, reduceCtorEq, Int.reduceEq, Int.reduceLT, Int.reduceLE, Int.reduceNeg, Value.cells, Value.oneCell', Nat.reduceAdd, Nat.reduceEqDiff, fillL, setL, Nat.reduceLeDiff, f6, hw]
    refine hK _ _ ?_
    clear hK K
    refine w_ret ?_
    repeat (first | with_reducible refine q_n ?_ | with_reducible refine q_e ?_ | with_reducible refine q_r ?_ | with_reducible refine bq_n ?_ | with_reducible refine bq_e ?_ | with_reducible refine bq_r ?_ | with_reducible refine bq_o rfl ?_)
    refine retG (v := .tuple #[.agg #[.int .i64 0, .int .i64 0], .bool false]) (by simp (disch := omega) only [resV, rvsV, rvV, oneOr, ↓wD, ↓i_cbs, ↓i_csk, wU, b_and, b_or, b_shl, b_shr, Nat.reduceBEq, reduceCtorEq, Int.reduceEq, Int.reduceLT, Int.reduceLE, Int.reduceNeg, Value.cells, Value.oneCell', Nat.reduceAdd, Nat.reduceEqDiff, fillL, setL, Nat.reduceLeDiff, f6, rd2, q0, q1]) ?_
    exact ⟨hW.ext (hE02.trans hE) (by omega), ⟨0, 0⟩, false, rfl, .inr ⟨rfl, rfl, hno⟩⟩
end Go.WK
/-
  Tables that are made.
-/
namespace Go.WK
open Go Go.Proofs

theorem ElHd.lt {S : Nat → Prop} {H : Hp} {cs : List Value} {h : Hd} (e : ElHd S H cs h) : ElHd (fun x => S x ∧ x < H.size) H cs h := by
  obtain ⟨va, vr, e, h1, h2, h3⟩ := e
  exact ⟨va, vr, e, h1.lt (by decide), h2.lt (by decide), h3⟩
theorem HdSl.lt {S : Nat → Prop} {H : Hp} {v : Value} {l : List Hd} (h : HdSl S H v l) : HdSl (fun x => S x ∧ x < H.size) H v l := by
  refine SlP.mono (H' := H) (SlP.lt (by decide) h) (fun _ h => h) (fun _ _ _ => rfl) fun cs a _ he => he.lt

theorem made_cl {S : Nat → Prop} {H : Hp} {v : Value} {l : List Hd} (hv : HdSl S H v l) : Cl Tryz.prog 11 [v] H fun r H' => r = .pointer (some ⟨H.size, 0, none⟩) ∧ Ext H H' ∧ ∃ L M G v', Tab M G H' H.size L v' ∧ WF L ∧ ∀ x, M x ∨ G x → H.size ≤ x := by
  refine cl_of mixed c_watershedlaw16_made (Nat.le_of_ble_eq_true rfl) ?_
  simp only [fwp, ir_watershedlaw16_made, argF, Nat.reduceAdd]
  obtain ⟨a, c, rfl, hc, hl, hel⟩ := SlP.open hv.lt
  refine w_reg fun K hK => ?_
  simp (disch := omega) only [↓wD, ↓i_cbs, ↓i_csk, wU, b_and, b_or, b_shl, b_shr, Nat.reduceBEq, reduceCtorEq, Int.reduceEq, Int.reduceLT, Int.reduceLE, Int.reduceNeg, Value.cells, Value.oneCell', Nat.reduceAdd, Nat.reduceEqDiff, fillL, setL, Nat.reduceLeDiff, ]
  refine hK _ _ ?_
  clear hK K
  refine w_reg fun K hK => ?_
  simp (disch := omega) only [↓wD, ↓i_cbs, ↓i_csk, wU, b_and, b_or, b_shl, b_shr, Nat.reduceBEq, reduceCtorEq, Int.reduceEq, Int.reduceLT, Int.reduceLE, Int.reduceNeg, Value.cells, Value.oneCell', Nat.reduceAdd, Nat.reduceEqDiff, fillL, setL, Nat.reduceLeDiff, ]
  refine w_call (New_cl) ?_
  rintro _ H1 ⟨rfl, hE1, hT1⟩
  simp (disch := omega) only [↓wD, ↓i_cbs, ↓i_csk, wU, b_and, b_or, b_shl, b_shr, Nat.reduceBEq, reduceCtorEq, Int.reduceEq, Int.reduceLT, Int.reduceLE, Int.reduceNeg, Value.cells, Value.oneCell', Nat.reduceAdd, Nat.reduceEqDiff, fillL, setL, Nat.reduceLeDiff, ]
  refine hK _ _ ?_
  clear hK K
  refine w_seq (w_seq ?_)
  refine w_reg fun K hK => ?_
  simp (disch := omega) only [↓wD, ↓i_cbs, ↓i_csk, wU, b_and, b_or, b_shl, b_shr, Nat.reduceBEq, reduceCtorEq, Int.reduceEq, Int.reduceLT, Int.reduceLE, Int.reduceNeg, Value.cells, Value.oneCell', Nat.reduceAdd, Nat.reduceEqDiff, fillL, setL, Nat.reduceLeDiff, ]
  refine hK _ _ ?_
  clear hK K
  refine w_blk (w_loop (fun n f H' => Ext H H' ∧ f 0 = .slice a l.length c ∧ f 3 = .pointer (some ⟨H.size, 0, none⟩) ∧ ∃ (i : Nat), f 4 = .int .i64 i ∧ i ≤ l.length ∧ (∃ L M G v', Tab M G H' H.size L v' ∧ WF L ∧ ∀ x, M x ∨ G x → H.size ≤ x) ∧ n = l.length - i) _ ⟨hE1, (by simp only [ev_tmp, ev_const, upd_apply, Nat.reduceBEq, cond_true, cond_false, ]), (by simp only [ev_tmp, ev_const, upd_apply, Nat.reduceBEq, cond_true, cond_false, ]), 0, rfl, Nat.zero_le _, ⟨[], _, _, _, hT1, WF.nil, by simp⟩, rfl⟩ ?_)
  rintro n f H' ⟨hE, f0, f3, i, f4, hi, ⟨L, M, G, v', hT, hW, hlo⟩, rfl⟩
  refine w_seq (w_seq ?_)
  by_cases hil : i < l.length
  · obtain ⟨b, o, rfl, hSb, cs, hcs, he⟩ := hel i hil
    have he1 := he.ext hE
    have hcs' := rdn_ext hE hcs
    have he' := he
    obtain ⟨va, vr, ecs, ha, hr, hnm, hsk, hsv⟩ := he'
    rw [ecs] at hcs'
    refine w_reg fun K hK => ?_
    simp (disch := omega) only [↓wD, ↓i_cbs, ↓i_csk, wU, b_and, b_or, b_shl, b_shr, Nat.reduceBEq, reduceCtorEq, Int.reduceEq, Int.reduceLT, Int.reduceLE, Int.reduceNeg, Value.cells, Value.oneCell', Nat.reduceAdd, Nat.reduceEqDiff, fillL, setL, Nat.reduceLeDiff, f0, f4, hil]
    refine hK _ _ ?_
    clear hK K
    refine w_true (by simp only [ev_tmp, ev_const, upd_apply, Nat.reduceBEq, cond_true, cond_false, Bool.not_true, Bool.not_false, ]) ?_
    refine w_skip ?_
    repeat (first | with_reducible refine q_n ?_ | with_reducible refine q_e ?_ | with_reducible refine q_r ?_ | with_reducible refine bq_n ?_ | with_reducible refine bq_e ?_ | with_reducible refine bq_r ?_ | with_reducible refine bq_o rfl ?_)
    refine w_seq (w_blk ?_)
    refine w_reg1 fun K hK => ?_
    simp (disch := omega) only [↓wD, ↓i_cbs, ↓i_csk, wU, b_and, b_or, b_shl, b_shr, Nat.reduceBEq, reduceCtorEq, Int.reduceEq, Int.reduceLT, Int.reduceLE, Int.reduceNeg, Value.cells, Value.oneCell', Nat.reduceAdd, Nat.reduceEqDiff, fillL, setL, Nat.reduceLeDiff, f0, f3, f4, hil, hcs']
    rw [← ecs]
    have hp := cell_lt hT.c0
    have hE2 : Ext H' (H'.push (.cells cs.toArray 35)) := (Ext.refl _).push _
    refine w_call (Put_cl (hT.ext hE2) hW (he1.sl1 35) (fun x hx => by
          have hs := hE.size
          rcases hx with ⟨_, hx⟩ | hx
          · exact ⟨fun hm => by have := hlo x (.inl hm); omega, by omega⟩
          · exact ⟨fun hm => by have := hT.lt x (.inl hm); omega, by omega⟩)) ?_
    rintro _ H2 ⟨rfl, hk2, L2, M2, G2, v2, hW2, hT2, hGr, -⟩
    simp (disch := omega) only [↓wD, ↓i_cbs, ↓i_csk, wU, b_and, b_or, b_shl, b_shr, Nat.reduceBEq, reduceCtorEq, Int.reduceEq, Int.reduceLT, Int.reduceLE, Int.reduceNeg, Value.cells, Value.oneCell', Nat.reduceAdd, Nat.reduceEqDiff, fillL, setL, Nat.reduceLeDiff, ]
    refine hK _ _ ?_
    clear hK K
    repeat (first | with_reducible refine q_n ?_ | with_reducible refine q_e ?_ | with_reducible refine q_r ?_ | with_reducible refine bq_n ?_ | with_reducible refine bq_e ?_ | with_reducible refine bq_r ?_ | with_reducible refine bq_o rfl ?_)
    refine w_reg1 fun K hK => ?_
    simp (disch := omega) only [↓wD, ↓i_cbs, ↓i_csk, wU, b_and, b_or, b_shl, b_shr, Nat.reduceBEq, reduceCtorEq, Int.reduceEq, Int.reduceLT, Int.reduceLE, Int.reduceNeg, Value.cells, Value.oneCell', Nat.reduceAdd, Nat.reduceEqDiff, fillL, setL, Nat.reduceLeDiff, f4]
    refine hK _ _ ?_
    clear hK K
    repeat (first | with_reducible refine q_n ?_ | with_reducible refine q_e ?_ | with_reducible refine q_r ?_ | with_reducible refine bq_n ?_ | with_reducible refine bq_e ?_ | with_reducible refine bq_r ?_ | with_reducible refine bq_o rfl ?_)
    have hs := hE.size
    have hsp : (H'.push (.cells cs.toArray 35)).size = H'.size + 1 := by simp
    rw [hsp] at hGr
    refine ⟨l.length - (i + 1), by omega, ⟨Nat.le_trans (hE.trans hE2).size hk2.1, fun x hx => ?_⟩, (by simp only [ev_tmp, ev_const, upd_apply, Nat.reduceBEq, cond_true, cond_false, f0]), (by simp only [ev_tmp, ev_const, upd_apply, Nat.reduceBEq, cond_true, cond_false, f3]), i + 1, (by simp only [ev_tmp, ev_const, upd_apply, Nat.reduceBEq, cond_true, cond_false, ]), by omega, ⟨L2, M2, G2, v2, hT2, hW2, fun x hx => ?_⟩, rfl⟩
    · rw [hk2.2 x (by omega) ⟨fun hm => by have := hlo x (.inl hm); omega, by omega⟩, (hE.trans hE2).2 x hx]
    · rcases hx with hx | hx
      · rcases hGr.1 x hx with h | h
        · exact hlo x (.inl h)
        · omega
      · rcases hGr.2 x hx with h | h
        · exact hlo x (.inr h)
        · omega
  · refine w_reg fun K hK => ?_
    simp (disch := omega) only [↓wD, ↓i_cbs, ↓i_csk, wU, b_and, b_or, b_shl, b_shr, Nat.reduceBEq, reduceCtorEq, Int.reduceEq, Int.reduceLT, Int.reduceLE, Int.reduceNeg, Value.cells, Value.oneCell', Nat.reduceAdd, Nat.reduceEqDiff, fillL, setL, Nat.reduceLeDiff, f0, f4, hil]
    refine hK _ _ ?_
    clear hK K
    refine w_false (by simp only [ev_tmp, ev_const, upd_apply, Nat.reduceBEq, cond_true, cond_false, Bool.not_true, Bool.not_false, ]) ?_
    refine w_exit ?_
    repeat (first | with_reducible refine q_n ?_ | with_reducible refine q_e ?_ | with_reducible refine q_r ?_ | with_reducible refine bq_n ?_ | with_reducible refine bq_e ?_ | with_reducible refine bq_r ?_ | with_reducible refine bq_o rfl ?_)
    refine w_reg fun K hK => ?_
    simp (disch := omega) only [↓wD, ↓i_cbs, ↓i_csk, wU, b_and, b_or, b_shl, b_shr, Nat.reduceBEq, reduceCtorEq, Int.reduceEq, Int.reduceLT, Int.reduceLE, Int.reduceNeg, Value.cells, Value.oneCell', Nat.reduceAdd, Nat.reduceEqDiff, fillL, setL, Nat.reduceLeDiff, f3]
    refine hK _ _ ?_
    clear hK K
    refine w_ret ?_
    repeat (first | with_reducible refine q_n ?_ | with_reducible refine q_e ?_ | with_reducible refine q_r ?_ | with_reducible refine bq_n ?_ | with_reducible refine bq_e ?_ | with_reducible refine bq_r ?_ | with_reducible refine bq_o rfl ?_)
    refine ret1 (by (try simp only [ev_tmp, ev_const, upd_apply, Nat.reduceBEq, cond_true, cond_false, ]); rfl) ?_
    exact ⟨rfl, hE, L, M, G, v', hT, hW, hlo⟩

theorem i64_0 : I64 0 := ⟨by decide, by decide⟩
theorem i64_1 : I64 1 := ⟨by decide, by decide⟩
def plainH (key : ByteArray) (c : Int) : Hd := ⟨key, ⟨c, 1⟩, [⟨1, key, .empty, 0⟩], [⟨key, false, .empty⟩], false, .empty⟩
theorem plain_cl {H : Hp} (key : ByteArray) (c : Int) (hk : Sz key) (hc : I64 c) : Cl Tryz.prog 46 [.string key, .int .i64 c] H fun r H' => ∃ cs G, r = .agg cs.toArray ∧ ElHd G H' cs (plainH key c) ∧ (∀ x, G x → H.size ≤ x ∧ x < H'.size) ∧ Ext H H' := by
  refine cl_of mixed c_watershedlaw16_plain (Nat.le_of_ble_eq_true rfl) ?_
  simp only [fwp, ir_watershedlaw16_plain, argF, Nat.reduceAdd]
  refine w_reg fun K hK => ?_
  simp (disch := omega) only [↓wD, ↓i_cbs, ↓i_csk, wU, b_and, b_or, b_shl, b_shr, Nat.reduceBEq, reduceCtorEq, Int.reduceEq, Int.reduceLT, Int.reduceLE, Int.reduceNeg, Value.cells, Value.oneCell', Nat.reduceAdd, Nat.reduceEqDiff, fillL, setL, Nat.reduceLeDiff, ]
  refine hK _ _ ?_
  clear hK K
  refine w_reg fun K hK => ?_
  simp (disch := omega) only [↓wD, ↓i_cbs, ↓i_csk, wU, b_and, b_or, b_shl, b_shr, Nat.reduceBEq, reduceCtorEq, Int.reduceEq, Int.reduceLT, Int.reduceLE, Int.reduceNeg, Value.cells, Value.oneCell', Nat.reduceAdd, Nat.reduceEqDiff, fillL, setL, Nat.reduceLeDiff, ]
  refine hK _ _ ?_
  clear hK K
  refine w_ret ?_
  repeat (first | with_reducible refine q_n ?_ | with_reducible refine q_e ?_ | with_reducible refine q_r ?_ | with_reducible refine bq_n ?_ | with_reducible refine bq_e ?_ | with_reducible refine bq_r ?_ | with_reducible refine bq_o rfl ?_)
  have r7 : rdn (((H.push (.cells #[.string key, .int .i64 c, .int .i64 1, .slice (some ⟨H.size + 1, 0, none⟩) 1 1, .slice (some ⟨H.size + 1 + 1, 0, none⟩) 1 1, .bool false, .string .empty] 35)).push (.cells #[.int .u8 1, .string key, .string .empty, .int .i64 0] 98)).push (.cells #[.string key, .bool false, .string .empty] 100)) H.size 0 7 = some [.string key, .int .i64 c, .int .i64 1, .slice (some ⟨H.size + 1, 0, none⟩) 1 1, .slice (some ⟨H.size + 1 + 1, 0, none⟩) 1 1, .bool false, .string .empty] :=
    rdn_ext (((Ext.refl _).push _).push _) (rdn_new H [_, _, _, _, _, _, _] 35 0 7 (Nat.le_refl _))
  have r4 : rdn (((H.push (.cells #[.string key, .int .i64 c, .int .i64 1, .slice (some ⟨H.size + 1, 0, none⟩) 1 1, .slice (some ⟨H.size + 1 + 1, 0, none⟩) 1 1, .bool false, .string .empty] 35)).push (.cells #[.int .u8 1, .string key, .string .empty, .int .i64 0] 98)).push (.cells #[.string key, .bool false, .string .empty] 100)) (H.size + 1) 0 4 = some [.int .u8 1, .string key, .string .empty, .int .i64 0] := by
    have := rdn_new (H.push (.cells #[.string key, .int .i64 c, .int .i64 1, .slice (some ⟨H.size + 1, 0, none⟩) 1 1, .slice (some ⟨H.size + 1 + 1, 0, none⟩) 1 1, .bool false, .string .empty] 35)) [.int .u8 1, .string key, .string .empty, .int .i64 0] 98 0 4 (Nat.le_refl _)
    rw [Array.size_push] at this
    exact rdn_ext ((Ext.refl _).push _) this
  have r3 : rdn (((H.push (.cells #[.string key, .int .i64 c, .int .i64 1, .slice (some ⟨H.size + 1, 0, none⟩) 1 1, .slice (some ⟨H.size + 1 + 1, 0, none⟩) 1 1, .bool false, .string .empty] 35)).push (.cells #[.int .u8 1, .string key, .string .empty, .int .i64 0] 98)).push (.cells #[.string key, .bool false, .string .empty] 100)) (H.size + 1 + 1) 0 3 = some [.string key, .bool false, .string .empty] := by
    have := rdn_new ((H.push (.cells #[.string key, .int .i64 c, .int .i64 1, .slice (some ⟨H.size + 1, 0, none⟩) 1 1, .slice (some ⟨H.size + 1 + 1, 0, none⟩) 1 1, .bool false, .string .empty] 35)).push (.cells #[.int .u8 1, .string key, .string .empty, .int .i64 0] 98)) [.string key, .bool false, .string .empty] 100 0 3 (Nat.le_refl _)
    rw [Array.size_push, Array.size_push] at this
    exact this
  have hEx : Ext H (((H.push (.cells #[.string key, .int .i64 c, .int .i64 1, .slice (some ⟨H.size + 1, 0, none⟩) 1 1, .slice (some ⟨H.size + 1 + 1, 0, none⟩) 1 1, .bool false, .string .empty] 35)).push (.cells #[.int .u8 1, .string key, .string .empty, .int .i64 0] 98)).push (.cells #[.string key, .bool false, .string .empty] 100)) := (((Ext.refl _).push _).push _).push _
  have hsz : (((H.push (.cells #[.string key, .int .i64 c, .int .i64 1, .slice (some ⟨H.size + 1, 0, none⟩) 1 1, .slice (some ⟨H.size + 1 + 1, 0, none⟩) 1 1, .bool false, .string .empty] 35)).push (.cells #[.int .u8 1, .string key, .string .empty, .int .i64 0] 98)).push (.cells #[.string key, .bool false, .string .empty] 100)).size = H.size + 3 := by simp
  generalize ((H.push (.cells #[.string key, .int .i64 c, .int .i64 1, .slice (some ⟨H.size + 1, 0, none⟩) 1 1, .slice (some ⟨H.size + 1 + 1, 0, none⟩) 1 1, .bool false, .string .empty] 35)).push (.cells #[.int .u8 1, .string key, .string .empty, .int .i64 0] 98)).push (.cells #[.string key, .bool false, .string .empty] 100) = HC at r7 r4 r3 hEx hsz ⊢
  obtain ⟨q0, q1, q2, q3, q4, q5, q6⟩ := rdn7 r7
  refine retG (v := .agg #[.string key, .int .i64 c, .int .i64 1, .slice (some ⟨H.size + 1, 0, none⟩) 1 1, .slice (some ⟨H.size + 1 + 1, 0, none⟩) 1 1, .bool false, .string .empty]) (by simp (disch := omega) only [resV, rvsV, rvV, oneOr, ↓wD, ↓i_cbs, ↓i_csk, wU, b_and, b_or, b_shl, b_shr, Nat.reduceBEq, reduceCtorEq, Int.reduceEq, Int.reduceLT, Int.reduceLE, Int.reduceNeg, Value.cells, Value.oneCell', Nat.reduceAdd, Nat.reduceEqDiff, fillL, setL, Nat.reduceLeDiff, q0, q1, q2, q3, q4, q5, q6]) ?_
  have he0 : Sz ByteArray.empty := by unfold Sz big; decide
  refine ⟨_, fun x => H.size ≤ x ∧ x < H.size + 3, rfl, ⟨_, _, rfl, ⟨(by decide : (1 : Nat) ≤ big), .inr ⟨H.size + 1, 0, 1, rfl, Nat.le_refl _, fun i hi => ?_⟩⟩, ⟨(by decide : (1 : Nat) ≤ big), .inr ⟨H.size + 1 + 1, 0, 1, rfl, Nat.le_refl _, fun i hi => ?_⟩⟩, ⟨hc, i64_1⟩, hk, he0⟩, fun x hx => ⟨hx.1, by omega⟩, hEx⟩
  · have hi0 : i = 0 := by simp [plainH] at hi; omega
    subst hi0
    exact ⟨⟨by omega, by omega⟩, _, by rw [Nat.zero_mul]; exact r4, rfl, by simp [plainH], i64_0, hk, he0⟩
  · have hi0 : i = 0 := by simp [plainH] at hi; omega
    subst hi0
    exact ⟨⟨by omega, by omega⟩, _, by rw [Nat.zero_mul]; exact r3, rfl, hk, he0⟩
end Go.WK
/-
  Holds as bytes.
-/
namespace Go.WK
open Go Go.Proofs

theorem sl_block {α : Type} {El : List Value → α → Prop} {H : Hp} {b t : Nat} {l : List α} {g : α → Value} (hc : H[b]? = some (.cells (l.map g).toArray t)) (hE : ∀ a ∈ l, El [g a] a) (hl : l.length ≤ big) : SlP (fun x => x = b) H 1 El (.slice (some ⟨b, 0, none⟩) l.length l.length) l := by
  refine ⟨hl, .inr ⟨b, 0, l.length, rfl, Nat.le_refl _, fun i hi => ⟨rfl, [g l[i]], ?_, hE _ (List.getElem_mem _)⟩⟩⟩
  refine rdn_of rfl fun j hj => ?_
  have hj0 : j = 0 := by omega
  subst hj0
  simp only [cell, hc, Nat.zero_add, Nat.mul_one, Nat.add_zero, List.getElem?_toArray, List.getElem?_map, List.getElem?_eq_getElem hi, Option.map_some, List.getElem?_cons_zero]
/-- A call of a writer in a region: what it leaves. -/
theorem acP_wr {S F A M : Nat → Prop} {H H2 : Hp} {p : Nat} {sp : Bool} {bs : List UInt8} {k : (Nat → Prop) → Prop} (hF : F = fun x => M x ∨ x = p) (hS : ∀ x, S x → ¬ M x ∧ x ≠ p) (hp : p < H.size) (h : WrP M H p sp bs H2)
    (hk : ∀ M2 v2, Wr M2 H2 p sp bs v2 → (∀ x, M2 x → M x ∨ H.size ≤ x) → k (fun x => M2 x ∨ x = p)) : acP S F A H H2 k := by
  obtain ⟨hkeep, M2, v2, hW2, hM2⟩ := h
  subst hF
  refine ⟨fun x => M2 x ∨ x = p, ?_, ?_, hkeep.1, ?_, hk M2 v2 hW2 hM2⟩
  · rintro x (hx | rfl)
    · exact (hM2 x hx).imp .inl id
    · exact .inl (.inr rfl)
  · rintro x (hx | rfl)
    · exact hW2.lt x hx
    · exact Nat.lt_of_lt_of_le hp hkeep.1
  · rintro x hx (⟨h1, -⟩ | h1)
    · exact hkeep.2 x hx ⟨fun h => h1 (.inl h), fun h => h1 (.inr h)⟩
    · exact hkeep.2 x hx (hS x h1)
def absI (n : Int) : Int := max n (IntKind.i64.wrap (0 - n))
theorem absI_ok {n : Int} (h : I64 n) : I64 (absI n) := by
  obtain ⟨h1, h2⟩ := h
  unfold absI
  by_cases h0 : n = -9223372036854775808
  · subst h0; exact ⟨by decide, by decide⟩
  · rw [wr64 (by omega) (by omega)]; exact ⟨by omega, by omega⟩
def actE (a : Ac) : List UInt8 := numsE [a.kind] ++ textE a.value ++ [flagE (decide (a.num < 0))] ++ numsE [absI a.num]
def readE (r : Rd) : List UInt8 := [flagE r.is] ++ textE r.value
def holdE (h : Hd) : List UInt8 := textE h.key ++ numsE [h.name.client, h.name.num, (h.acts.length : Int)] ++ h.acts.flatMap actE ++ numsE [(h.reads.length : Int)] ++ h.reads.flatMap readE ++ [flagE h.put] ++ textE h.value
def actOk (a : Ac) : Bool := numOk a.kind && numOk (absI a.num)
def holdOk (h : Hd) : Bool := numOk h.name.client && numOk h.name.num && h.acts.all actOk
/-- What a hold's bytes are at most. -/
def actW (a : Ac) : Nat := a.value.size + 40
def readW (r : Rd) : Nat := r.value.size + 20
def holdW (h : Hd) : Nat := h.key.size + h.value.size + 100 + (h.acts.map actW).sum + (h.reads.map readW).sum
theorem actE_len {a : Ac} (h : Sz a.value) : (actE a).length ≤ actW a := by
  have h1 := numsE_len [a.kind]
  have h2 := textE_len _ h
  have h3 := numsE_len [absI a.num]
  simp only [actE, actW, List.length_append, List.length_cons, List.length_nil] at h1 h2 h3 ⊢; omega
theorem readE_len {r : Rd} (h : Sz r.value) : (readE r).length ≤ readW r := by
  have h2 := textE_len _ h
  simp only [readE, readW, List.length_append, List.length_cons, List.length_nil] at h2 ⊢; omega
theorem flat_le {α : Type} {e : α → List UInt8} {w : α → Nat} : ∀ {l : List α}, (∀ a ∈ l, (e a).length ≤ w a) → ∀ i (hi : i < l.length), ((l.take i).flatMap e).length + w l[i] ≤ (l.map w).sum
  | a :: l, h, 0, _ => by simp
  | a :: l, h, i + 1, hi => by
    have := flat_le (l := l) (fun a ha => h a (by simp [ha])) i (by simpa using hi)
    have h0 := h a (by simp)
    simp only [List.take_succ_cons, List.flatMap_cons, List.length_append, List.map_cons, List.sum_cons, List.getElem_cons_succ]; omega
theorem flat_all {α : Type} {e : α → List UInt8} {w : α → Nat} : ∀ {l : List α}, (∀ a ∈ l, (e a).length ≤ w a) → (l.flatMap e).length ≤ (l.map w).sum
  | [], _ => by simp
  | a :: l, h => by
    have := flat_all (l := l) (fun a ha => h a (by simp [ha]))
    have h0 := h a (by simp)
    simp only [List.flatMap_cons, List.length_append, List.map_cons, List.sum_cons]; omega
theorem mx2 (a b : Int) : maxI [.int .i64 a, .int .i64 b] = some (.int .i64 (max a b)) := by
  simp only [maxI]
  congr 2
  by_cases h : b > a
  · rw [if_pos h]; omega
  · rw [if_neg h]; omega
theorem snoc_flat {α : Type} (e : α → List UInt8) (l : List α) (x : α) : (l ++ [x]).flatMap e = l.flatMap e ++ e x := by simp

theorem WrP.pre {M : Nat → Prop} {A B C : Hp} {p : Nat} {sp : Bool} {bs : List UInt8} (hE : Ext A B) (h : WrP M B p sp bs C) : WrP M A p sp bs C := by
  obtain ⟨hk, M2, v2, hW2, hM2⟩ := h
  refine ⟨⟨Nat.le_trans hE.1 hk.1, fun b hb hS => by rw [hk.2 b (Nat.lt_of_lt_of_le hb hE.1) hS, hE.2 b hb]⟩, M2, v2, hW2, fun x hx => ?_⟩
  have := hE.1
  rcases hM2 x hx with h | h
  · exact .inl h
  · exact .inr (by omega)
theorem one_str {H : Hp} {b t : Nat} {s : ByteArray} (hc : H[b]? = some (.cells #[.string s] t)) (hs : Sz s) : StrSl (fun x => x = b) H (.slice (some ⟨b, 0, none⟩) 1 1) [s] :=
  sl_block (l := [s]) (g := fun x => .string x) hc (fun a ha => by simp at ha; subst ha; exact ⟨rfl, hs⟩) (by simp; decide)
theorem one_int {H : Hp} {b t : Nat} {n : Int} (hc : H[b]? = some (.cells #[.int .i64 n] t)) (hn : I64 n) : ISl (fun x => x = b) H (.slice (some ⟨b, 0, none⟩) 1 1) [n] :=
  sl_block (l := [n]) (g := fun x => .int .i64 x) hc (fun a ha => by simp at ha; subst ha; exact ⟨rfl, hn⟩) (by simp; decide)
theorem one_flag {H : Hp} {b t : Nat} {n : Bool} (hc : H[b]? = some (.cells #[.bool n] t)) : FSl (fun x => x = b) H (.slice (some ⟨b, 0, none⟩) 1 1) [n] :=
  sl_block (l := [n]) (g := fun x => .bool x) hc (fun a ha => rfl) (by simp; decide)
theorem ints3 {H : Hp} {b t : Nat} {n m k : Int} (hc : H[b]? = some (.cells #[.int .i64 n, .int .i64 m, .int .i64 k] t)) (hn : I64 n) (hm : I64 m) (hk : I64 k) : ISl (fun x => x = b) H (.slice (some ⟨b, 0, none⟩) 3 3) [n, m, k] :=
  sl_block (l := [n, m, k]) (g := fun x => .int .i64 x) hc (fun a ha => by
    simp at ha
    rcases ha with rfl | rfl | rfl
    · exact ⟨rfl, hn⟩
    · exact ⟨rfl, hm⟩
    · exact ⟨rfl, hk⟩) (by simp; decide)
theorem nlen_ok {n : Nat} (h : n ≤ 140737488355328) : I64 (n : Int) ∧ numOk (n : Int) = true := by
  refine ⟨⟨by omega, by omega⟩, ?_⟩
  simp only [numOk, Bool.and_eq_true, decide_eq_true_eq]; omega

/-- From one writing to the next one, blocks having been made between. -/
theorem WrP.next {M M1 : Nat → Prop} {A B B' C : Hp} {p : Nat} {sp sp' : Bool} {bs bs' : List UInt8} (hp : p < A.size) (hlt : ∀ x, M x → x < A.size) (h : WrP M A p sp bs B) (hM1 : ∀ x, M1 x → M x ∨ A.size ≤ x) (hE : Ext B B') (k : WrP M1 B' p sp' bs' C) : WrP M A p sp' bs' C :=
  WrP.trans hp hlt h.1 hM1 (WrP.pre hE k)
theorem num_abs (n : Int) : maxI [.int .i64 n, .int .i64 (IntKind.i64.wrap (0 - n))] = some (.int .i64 (absI n)) := mx2 _ _

set_option maxHeartbeats 8000000 in
theorem Write_cl {M S : Nat → Prop} {H : Hp} {p : Nat} {sp : Bool} {bs : List UInt8} {v u : Value} {l : List Hd} (hW : Wr M H p sp bs v) (hu : HdSl S H u l) (hS : ∀ x, S x → ¬ M x ∧ x ≠ p) (hl : bs.length + (l.map holdW).sum + 100 ≤ 140737488355328) :
    Cl Tryz.prog 20 [.pointer (some ⟨p, 0, none⟩), u] H fun r H' => r = .pointer (some ⟨p, 0, none⟩) ∧ WrP M H p (sp || !l.all holdOk) (bs ++ numsE [(l.length : Int)] ++ l.flatMap holdE) H' := by
  refine cl_of mixed c_holds_Write (Nat.le_of_ble_eq_true rfl) ?_
  simp only [fwp, ir_holds_Write, argF, Nat.reduceAdd]
  obtain ⟨a, c, rfl, hc, hll, hel⟩ := SlP.open hu.lt
  have hp := cell_lt hW.c0
  refine w_reg fun K hK => ?_
  simp (disch := omega) only [↓wD, ↓i_cbs, ↓i_csk, wU, b_and, b_or, b_shl, b_shr, Nat.reduceBEq, reduceCtorEq, Int.reduceEq, Int.reduceLT, Int.reduceLE, Int.reduceNeg, Value.cells, Value.oneCell', Nat.reduceAdd, Nat.reduceEqDiff, fillL, setL, Nat.reduceLeDiff, ]
  refine hK _ _ ?_
  clear hK K
  refine w_reg fun K hK => ?_
  simp (disch := omega) only [↓wD, ↓i_cbs, ↓i_csk, wU, b_and, b_or, b_shl, b_shr, Nat.reduceBEq, reduceCtorEq, Int.reduceEq, Int.reduceLT, Int.reduceLE, Int.reduceNeg, Value.cells, Value.oneCell', Nat.reduceAdd, Nat.reduceEqDiff, fillL, setL, Nat.reduceLeDiff, ]
  have hE0 : Ext H (H.push (.cells #[.int .i64 l.length] 3)) := (Ext.refl _).push _
  have hI0 : ISl (fun x => x = H.size) (H.push (.cells #[.int .i64 l.length] 3)) (.slice (some ⟨H.size, 0, none⟩) 1 1) [(l.length : Int)] := sl_block (l := [(l.length : Int)]) (g := fun x => .int .i64 x) (t := 3) (by simp) (fun x hx => ⟨rfl, by simp at hx; subst hx; exact ⟨by omega, by omega⟩⟩) (by simp; decide)
  refine w_call (Numbers_cl (hW.ext hE0) hI0 (fun x hx => ⟨fun hm => by have := hW.lt x hm; omega, by omega⟩) (by simp; omega)) ?_
  rintro _ H0 ⟨rfl, hk0, M0, v0, hW0, hM0⟩
  simp (disch := omega) only [↓wD, ↓i_cbs, ↓i_csk, wU, b_and, b_or, b_shl, b_shr, Nat.reduceBEq, reduceCtorEq, Int.reduceEq, Int.reduceLT, Int.reduceLE, Int.reduceNeg, Value.cells, Value.oneCell', Nat.reduceAdd, Nat.reduceEqDiff, fillL, setL, Nat.reduceLeDiff, ]
  refine hK _ _ ?_
  clear hK K
  have hP0 : WrP M H p sp (bs ++ numsE [(l.length : Int)]) H0 := by
    have e : (sp || ![(l.length : Int)].all numOk) = sp := by simp [(nlen_ok hll).2]
    rw [e] at hW0
    exact WrP.pre hE0 ⟨hk0, M0, v0, hW0, hM0⟩
  clear hk0 hW0 hM0 hI0
  generalize hB0 : bs ++ numsE [(l.length : Int)] = B0 at hP0 ⊢
  have hB0l : B0.length ≤ bs.length + 9 := by
    subst hB0
    have := numsE_len [(l.length : Int)]
    simp only [List.length_append, List.length_cons, List.length_nil] at this ⊢; omega
  clear hB0
  refine w_seq (w_seq ?_)
  refine w_reg fun K hK => ?_
  simp (disch := omega) only [↓wD, ↓i_cbs, ↓i_csk, wU, b_and, b_or, b_shl, b_shr, Nat.reduceBEq, reduceCtorEq, Int.reduceEq, Int.reduceLT, Int.reduceLE, Int.reduceNeg, Value.cells, Value.oneCell', Nat.reduceAdd, Nat.reduceEqDiff, fillL, setL, Nat.reduceLeDiff, ]
  refine hK _ _ ?_
  clear hK K
  have hwl : ∀ h ∈ l, (holdE h).length ≤ holdW h := by
    intro h hh
    obtain ⟨i, hi, rfl⟩ := List.getElem_of_mem hh
    obtain ⟨_, _, -, -, cs, -, va, vr, -, ha, hr, -, hk, hv⟩ := hel i hi
    obtain ⟨_, _, -, -, -, hae⟩ := SlP.open ha
    obtain ⟨_, _, -, -, -, hre⟩ := SlP.open hr
    have e1 := textE_len _ hk
    have e2 := textE_len _ hv
    have e3 := numsE_len [(l[i]).name.client, (l[i]).name.num, ((l[i]).acts.length : Int)]
    have e4 := numsE_len [((l[i]).reads.length : Int)]
    have e5 := flat_all (e := actE) (w := actW) (l := (l[i]).acts) fun a ha => by
      obtain ⟨j, hj, rfl⟩ := List.getElem_of_mem ha
      obtain ⟨_, _, -, -, _, -, -, -, -, -, hz⟩ := hae j hj
      exact actE_len hz
    have e6 := flat_all (e := readE) (w := readW) (l := (l[i]).reads) fun a ha => by
      obtain ⟨j, hj, rfl⟩ := List.getElem_of_mem ha
      obtain ⟨_, _, -, -, _, -, -, -, hz⟩ := hre j hj
      exact readE_len hz
    simp only [holdE, holdW, List.length_append, List.length_cons, List.length_nil] at e3 e4 e5 e6 ⊢
    omega
  refine w_blk (w_loop (fun n' f H' => f 0 = .pointer (some ⟨p, 0, none⟩) ∧ f 16 = .slice a l.length c ∧ f 17 = .int .i64 l.length ∧ ∃ i : Nat, f 18 = .int .i64 i ∧ i ≤ l.length ∧ n' = l.length - i ∧ WrP M H p (sp || !(l.take i).all holdOk) (B0 ++ (l.take i).flatMap holdE) H') l.length ⟨(by simp only [ev_tmp, ev_const, upd_apply, Nat.reduceBEq, cond_true, cond_false, ]), (by simp only [ev_tmp, ev_const, upd_apply, Nat.reduceBEq, cond_true, cond_false, ]), (by simp only [ev_tmp, ev_const, upd_apply, Nat.reduceBEq, cond_true, cond_false, ]), 0, (by simp only [ev_tmp, ev_const, upd_apply, Nat.reduceBEq, cond_true, cond_false, ]; rfl), Nat.zero_le _, rfl, by simpa using hP0⟩ ?_)
  rintro n' f H' ⟨f0, f16, f17, i, f18, hi, rfl, hk, M', v', hW', hM'⟩
  by_cases hil : i < l.length
  · obtain ⟨b, o, rfl, ⟨hSb, hbl⟩, cs, hcs, he⟩ := hel i hil
    have hSk : ∀ x, S x ∧ x < H.size → x < H.size → H'[x]? = H[x]? := fun x hx hx' => hk.2 x hx' (hS x hx.1)
    have hcs' := rdn_block (hSk b ⟨hSb, hbl⟩ hbl) hcs
    have he1 : ElHd (fun x => S x ∧ x < H.size) H' cs l[i] := he.mono (fun _ h => h) hSk
    have hSM : ∀ x, S x ∧ x < H.size → ¬ M' x ∧ x ≠ p := fun x hx => ⟨fun hm => (hM' x hm).elim (hS x hx.1).1 (by omega), (hS x hx.1).2⟩
    have htake : l.take (i + 1) = l.take i ++ [l[i]] := by
      rw [List.take_add_one, List.getElem?_eq_getElem hil]; rfl
    have hroom := flat_le (e := holdE) (w := holdW) hwl i hil
    have hsH := hk.1
    obtain ⟨va, vr, ecs, ha, hr, hnm, hkey, hval⟩ := he1
    obtain ⟨aa, aac, rfl, haac, -⟩ := ha.form
    obtain ⟨ra, rac, rfl, hrac, -⟩ := hr.form
    rw [ecs] at hcs'
    obtain ⟨c0, c1, c2, c3, c4, c5, c6⟩ := rdn7 hcs'
    refine w_reg fun K hK => ?_
    simp (disch := omega) only [↓wD, ↓i_cbs, ↓i_csk, wU, b_and, b_or, b_shl, b_shr, Nat.reduceBEq, reduceCtorEq, Int.reduceEq, Int.reduceLT, Int.reduceLE, Int.reduceNeg, Value.cells, Value.oneCell', Nat.reduceAdd, Nat.reduceEqDiff, fillL, setL, Nat.reduceLeDiff, f17, f18, hil]
    refine hK _ _ ?_
    clear hK K
    refine w_seq ?_
    refine w_true (by simp only [ev_tmp, ev_const, upd_apply, Nat.reduceBEq, cond_true, cond_false, Bool.not_true, Bool.not_false, ]) ?_
    refine w_skip ?_
    repeat (first | with_reducible refine q_n ?_ | with_reducible refine q_e ?_ | with_reducible refine q_r ?_ | with_reducible refine bq_n ?_ | with_reducible refine bq_e ?_ | with_reducible refine bq_r ?_ | with_reducible refine bq_o rfl ?_)
    refine w_seq (w_blk ?_)
    refine w_reg fun K hK => ?_
    simp (disch := omega) only [↓wD, ↓i_cbs, ↓i_csk, wU, b_and, b_or, b_shl, b_shr, Nat.reduceBEq, reduceCtorEq, Int.reduceEq, Int.reduceLT, Int.reduceLE, Int.reduceNeg, Value.cells, Value.oneCell', Nat.reduceAdd, Nat.reduceEqDiff, fillL, setL, Nat.reduceLeDiff, f16, f18, hil, c0, c1, c2, c3, c4, c5, c6]
    refine hK _ _ ?_
    clear hK K
    rw [← ecs]
    have hEc : Ext H' (H'.push (.cells cs.toArray 35)) := (Ext.refl _).push _
    have hb6 : H'.size < (H'.push (.cells cs.toArray 35)).size := by simp
    have hr6 : rdn (H'.push (.cells cs.toArray 35)) H'.size 0 7 = some cs := by
      rw [rdn_new H' cs 35 0 7 (by rw [ecs]; exact Nat.le_refl _), ecs]; rfl
    generalize H'.push (.cells cs.toArray 35) = Hc at hEc hb6 hr6 ⊢
    obtain ⟨B6, hB6⟩ : ∃ B6, B6 = H'.size := ⟨_, rfl⟩
    rw [← hB6] at hb6 hr6 ⊢
    have hb6M : ¬ M' B6 ∧ B6 ≠ p := ⟨fun hm => by have := hW'.lt _ hm; omega, by have := cell_lt hW'.c0; omega⟩
    have hWc := hW'.ext hEc
    have hpc := cell_lt hWc.c0
    -- what stays, whatever has been written since
    have stab : ∀ {sp' : Bool} {bs' : List UInt8} {H'' : Hp}, WrP M' Hc p sp' bs' H'' → rdn H'' B6 0 7 = some cs ∧ AcSl (fun x => S x ∧ x < H.size) H'' (.slice aa (l[i]).acts.length aac) (l[i]).acts ∧ RdSl (fun x => S x ∧ x < H.size) H'' (.slice ra (l[i]).reads.length rac) (l[i]).reads := by
      intro sp' bs' H'' hP
      have hkS : ∀ x, S x ∧ x < H.size → x < H'.size → H''[x]? = H'[x]? := fun x hx hx' => by
        rw [hP.1.2 x (by omega) (hSM x hx), hEc.2 x hx']
      exact ⟨rdn_block (hP.1.2 _ hb6 hb6M) hr6, ha.mono (fun _ h => h) hkS fun _ _ _ h => h, hr.mono (fun _ h => h) hkS fun _ _ _ h => h⟩
    generalize hsp : (sp || !(l.take i).all holdOk) = spi at hW' hWc
    generalize hbs : B0 ++ (l.take i).flatMap holdE = bsi at hW' hWc
    have hbsl : bsi.length + holdW l[i] + 20 ≤ 140737488355328 := by
      subst hbs; rw [List.length_append]; omega
    have hle1 := textE_len _ hkey
    have hszk : (l[i]).key.size ≤ holdW l[i] := by unfold holdW; omega
    have hall : (l[i]).acts.length ≤ 140737488355328 := ha.1
    have hrll : (l[i]).reads.length ≤ 140737488355328 := hr.1
    -- the key, the name, how many acts
    obtain ⟨d0, d1, d2, d3, d4, d5, d6⟩ := rdn7 (ecs ▸ hr6)
    simp only [Nat.zero_add] at d0 d1 d2 d3 d4 d5 d6
    refine w_seq ?_
    refine w_alc (fun x => x = B6) (fun x => M' x ∨ x = p) (fun x hx => hx.elim (hWc.lt x) fun e => e ▸ hpc) fun K hK => ?_
    simp (disch := omega) only [↓a_nil, ↓a_st, ↓a_new, ↓a_box, ↓a_bsl, ↓a_ac, ↓a_ft, ↓a_ff, p_nil, p_new, p_box, p_bsl, ↓ow_s, ↓ow_e, ↓ow_g, ↓l_nil, ↓l_f, ↓l_t, ↓o_s, ↓o_e, ↓o_g, ↓o_ge, ↓k_ld, ↓k_ldn, isemS, ↓wD, ↓i_cbs, ↓i_csk, wU, b_and, b_or, b_shl, b_shr, Nat.reduceBEq, reduceCtorEq, Int.reduceEq, Int.reduceLT, Int.reduceLE, Int.reduceNeg, Value.cells, Value.oneCell', Nat.reduceAdd, Nat.reduceEqDiff, fillL, setL, Nat.reduceLeDiff, f0, d0, d1, d2, d3]
    refine w_al fun b1 H1 hE1 hnb1 hbb1 hFb1 hAb1 hcb1 => ?_
    simp (disch := omega) only [↓a_nil, ↓a_st, ↓a_new, ↓a_box, ↓a_bsl, ↓a_ac, ↓a_ft, ↓a_ff, p_nil, p_new, p_box, p_bsl, ↓ow_s, ↓ow_e, ↓ow_g, ↓l_nil, ↓l_f, ↓l_t, ↓o_s, ↓o_e, ↓o_g, ↓o_ge, ↓k_ld, ↓k_ldn, isemS, ↓wD, ↓i_cbs, ↓i_csk, wU, b_and, b_or, b_shl, b_shr, Nat.reduceBEq, reduceCtorEq, Int.reduceEq, Int.reduceLT, Int.reduceLE, Int.reduceNeg, Value.cells, Value.oneCell', Nat.reduceAdd, Nat.reduceEqDiff, fillL, setL, Nat.reduceLeDiff, f0]
    refine w_ac fun H2 hE2 => ?_
    simp (disch := omega) only [↓a_nil, ↓a_st, ↓a_new, ↓a_box, ↓a_bsl, ↓a_ac, ↓a_ft, ↓a_ff, p_nil, p_new, p_box, p_bsl, ↓ow_s, ↓ow_e, ↓ow_g, ↓l_nil, ↓l_f, ↓l_t, ↓o_s, ↓o_e, ↓o_g, ↓o_ge, ↓k_ld, ↓k_ldn, isemS, ↓wD, ↓i_cbs, ↓i_csk, wU, b_and, b_or, b_shl, b_shr, Nat.reduceBEq, reduceCtorEq, Int.reduceEq, Int.reduceLT, Int.reduceLE, Int.reduceNeg, Value.cells, Value.oneCell', Nat.reduceAdd, Nat.reduceEqDiff, fillL, setL, Nat.reduceLeDiff, f0]
    have hEc2 := hE1.trans hE2
    have hF1 : ¬ M' b1 ∧ b1 ≠ p := ⟨fun h => hFb1 (.inl h), fun h => hFb1 (.inr h)⟩
    refine w_call (Texts_cl (hWc.ext hEc2) (one_str ((hE2.2 b1 hbb1).trans hcb1) hkey) (fun x hx => by subst hx; exact hF1) (by simp [szs]; omega)) ?_
    rintro _ H3 ⟨rfl, hP3⟩
    simp (disch := omega) only [↓a_nil, ↓a_st, ↓a_new, ↓a_box, ↓a_bsl, ↓a_ac, ↓a_ft, ↓a_ff, p_nil, p_new, p_box, p_bsl, ↓ow_s, ↓ow_e, ↓ow_g, ↓l_nil, ↓l_f, ↓l_t, ↓o_s, ↓o_e, ↓o_g, ↓o_ge, ↓k_ld, ↓k_ldn, isemS, ↓wD, ↓i_cbs, ↓i_csk, wU, b_and, b_or, b_shl, b_shr, Nat.reduceBEq, reduceCtorEq, Int.reduceEq, Int.reduceLT, Int.reduceLE, Int.reduceNeg, Value.cells, Value.oneCell', Nat.reduceAdd, Nat.reduceEqDiff, fillL, setL, Nat.reduceLeDiff, ]
    have hpc2 := Nat.lt_of_lt_of_le hpc hEc2.1
    refine acP_wr rfl (fun x hx => by subst hx; exact hb6M) hpc2 hP3 fun M3 v3 hW3 hM3 => ?_
    have hPc3 := WrP.pre hEc2 hP3
    have hM3c : ∀ x, M3 x → M' x ∨ Hc.size ≤ x := fun x hx => (hM3 x hx).imp id fun h => Nat.le_trans hEc2.1 h
    refine w_al fun b2 H4 hE4 hnb2 hbb2 hFb2 hAb2 hcb2 => ?_
    simp (disch := omega) only [↓a_nil, ↓a_st, ↓a_new, ↓a_box, ↓a_bsl, ↓a_ac, ↓a_ft, ↓a_ff, p_nil, p_new, p_box, p_bsl, ↓ow_s, ↓ow_e, ↓ow_g, ↓l_nil, ↓l_f, ↓l_t, ↓o_s, ↓o_e, ↓o_g, ↓o_ge, ↓k_ld, ↓k_ldn, isemS, ↓wD, ↓i_cbs, ↓i_csk, wU, b_and, b_or, b_shl, b_shr, Nat.reduceBEq, reduceCtorEq, Int.reduceEq, Int.reduceLT, Int.reduceLE, Int.reduceNeg, Value.cells, Value.oneCell', Nat.reduceAdd, Nat.reduceEqDiff, fillL, setL, Nat.reduceLeDiff, ]
    have hF2 : ¬ M3 b2 ∧ b2 ≠ p := ⟨fun h => hFb2 (.inl h), fun h => hFb2 (.inr h)⟩
    have hlen3 : (bsi ++ [(l[i]).key].flatMap textE).length ≤ bsi.length + (l[i]).key.size + 9 := by simp; omega
    have hszw : (l[i]).key.size + (l[i]).value.size + 100 + ((l[i]).acts.map actW).sum + ((l[i]).reads.map readW).sum = holdW l[i] := rfl
    refine w_call (Numbers_cl (hW3.ext hE4) (ints3 hcb2 hnm.1 hnm.2 (nlen_ok hall).1) (fun x hx => by subst hx; exact hF2) (by simp only [List.length_cons, List.length_nil]; omega)) ?_
    rintro _ H5 ⟨rfl, hP5⟩
    simp (disch := omega) only [↓a_nil, ↓a_st, ↓a_new, ↓a_box, ↓a_bsl, ↓a_ac, ↓a_ft, ↓a_ff, p_nil, p_new, p_box, p_bsl, ↓ow_s, ↓ow_e, ↓ow_g, ↓l_nil, ↓l_f, ↓l_t, ↓o_s, ↓o_e, ↓o_g, ↓o_ge, ↓k_ld, ↓k_ldn, isemS, ↓wD, ↓i_cbs, ↓i_csk, wU, b_and, b_or, b_shl, b_shr, Nat.reduceBEq, reduceCtorEq, Int.reduceEq, Int.reduceLT, Int.reduceLE, Int.reduceNeg, Value.cells, Value.oneCell', Nat.reduceAdd, Nat.reduceEqDiff, fillL, setL, Nat.reduceLeDiff, ]
    have hs24 : B6 < H4.size := by have h1 := hEc2.1; have h2 := hP3.1.1; have h3 := hE4.1; omega
    have hb6M3 : ¬ M3 B6 ∧ B6 ≠ p := ⟨fun hm => (hM3c _ hm).elim hb6M.1 (by omega), hb6M.2⟩
    refine ⟨⟨hP5.1.1, fun x hx hs => by subst hs; exact hP5.1.2 _ hx hb6M3⟩, ?_⟩
    refine hK _ _ ?_
    clear hK K
    have hPc5 := WrP.next hpc hWc.lt hPc3 hM3c hE4 hP5
    obtain ⟨sp5, hsp5, bs5, hbs5, hPc5⟩ : ∃ sp5, sp5 = (spi || !(numOk (l[i]).name.client && numOk (l[i]).name.num)) ∧ ∃ bs5, bs5 = bsi ++ textE (l[i]).key ++ numsE [(l[i]).name.client, (l[i]).name.num, ((l[i]).acts.length : Int)] ∧ WrP M' Hc p sp5 bs5 H5 := by
      refine ⟨_, rfl, _, rfl, ?_⟩
      have e1 : (spi || ![(l[i]).name.client, (l[i]).name.num, ((l[i]).acts.length : Int)].all numOk) = (spi || !(numOk (l[i]).name.client && numOk (l[i]).name.num)) := by simp [(nlen_ok hall).2]
      have e2 : bsi ++ [(l[i]).key].flatMap textE = bsi ++ textE (l[i]).key := by simp
      rw [e1, e2] at hPc5
      exact hPc5
    have hbs5l : bs5.length + (l[i]).value.size + 60 + ((l[i]).acts.map actW).sum + ((l[i]).reads.map readW).sum ≤ 140737488355328 := by
      subst hbs5
      have := numsE_len [(l[i]).name.client, (l[i]).name.num, ((l[i]).acts.length : Int)]
      simp only [List.length_append, List.length_cons, List.length_nil] at this ⊢
      omega
    clear hPc3 hP3 hP5 hW3
    obtain ⟨e0, e1, e2, e3, e4, e5, e6⟩ := rdn7 (ecs ▸ (stab hPc5).1)
    simp only [Nat.zero_add] at e0 e1 e2 e3 e4 e5 e6
    -- the acts
    have hawl : ∀ a ∈ (l[i]).acts, (actE a).length ≤ actW a := by
      obtain ⟨_, _, -, -, -, hae⟩ := SlP.open ha
      intro a ha
      obtain ⟨j, hj, rfl⟩ := List.getElem_of_mem ha
      obtain ⟨_, _, -, -, _, -, -, -, -, -, hz⟩ := hae j hj
      exact actE_len hz
    refine w_seq (w_seq ?_)
    refine w_reg fun K hK => ?_
    simp (disch := omega) only [↓wD, ↓i_cbs, ↓i_csk, wU, b_and, b_or, b_shl, b_shr, Nat.reduceBEq, reduceCtorEq, Int.reduceEq, Int.reduceLT, Int.reduceLE, Int.reduceNeg, Value.cells, Value.oneCell', Nat.reduceAdd, Nat.reduceEqDiff, fillL, setL, Nat.reduceLeDiff, e3]
    refine hK _ _ ?_
    clear hK K
    refine w_blk (w_loop (fun n' f H' => f 0 = .pointer (some ⟨p, 0, none⟩) ∧ f 6 = .pointer (some ⟨B6, 0, none⟩) ∧ f 16 = .slice (some ⟨b, o, none⟩) l.length c ∧ f 17 = .int .i64 l.length ∧ f 18 = .int .i64 i ∧ f 39 = .slice aa (l[i]).acts.length aac ∧ f 40 = .int .i64 (l[i]).acts.length ∧ ∃ k : Nat, f 41 = .int .i64 k ∧ k ≤ (l[i]).acts.length ∧ n' = (l[i]).acts.length - k ∧ WrP M' Hc p (sp5 || !((l[i]).acts.take k).all actOk) (bs5 ++ ((l[i]).acts.take k).flatMap actE) H') (l[i]).acts.length ⟨(by simp only [ev_tmp, ev_const, upd_apply, Nat.reduceBEq, cond_true, cond_false, f0]), (by simp only [ev_tmp, ev_const, upd_apply, Nat.reduceBEq, cond_true, cond_false, ]), (by simp only [ev_tmp, ev_const, upd_apply, Nat.reduceBEq, cond_true, cond_false, f16]), (by simp only [ev_tmp, ev_const, upd_apply, Nat.reduceBEq, cond_true, cond_false, f17]), (by simp only [ev_tmp, ev_const, upd_apply, Nat.reduceBEq, cond_true, cond_false, f18]), (by simp only [ev_tmp, ev_const, upd_apply, Nat.reduceBEq, cond_true, cond_false, ]), (by simp only [ev_tmp, ev_const, upd_apply, Nat.reduceBEq, cond_true, cond_false, ]), 0, (by simp only [ev_tmp, ev_const, upd_apply, Nat.reduceBEq, cond_true, cond_false, ]; rfl), Nat.zero_le _, rfl, by simpa using hPc5⟩ ?_)
    rintro n' g HA ⟨g0, g6, g16, g17, g18, g39, g40, k, g41, hk4, rfl, hPA⟩
    by_cases hkl : k < (l[i]).acts.length
    · obtain ⟨-, hactsA, -⟩ := stab hPA
      obtain ⟨aa', aac', eaa, -, -, hae⟩ := SlP.open hactsA
      obtain ⟨rfl, -, -⟩ := Value.slice.inj eaa
      obtain ⟨ab, ao, rfl, hSa, acs, hacs, eac, hkb, hnb, hkz, hvz⟩ := hae k hkl
      have hacs' := hacs
      rw [eac] at hacs'
      obtain ⟨q0, q1, q2, q3⟩ := rdn4 hacs'
      have hroomA := flat_le (e := actE) (w := actW) hawl k hkl
      have htakeA : (l[i]).acts.take (k + 1) = (l[i]).acts.take k ++ [(l[i]).acts[k]] := by
        rw [List.take_add_one, List.getElem?_eq_getElem hkl]; rfl
      obtain ⟨hkA, MA, vA, hWA, hMA⟩ := hPA
      refine w_reg fun K hK => ?_
      simp (disch := omega) only [↓wD, ↓i_cbs, ↓i_csk, wU, b_and, b_or, b_shl, b_shr, Nat.reduceBEq, reduceCtorEq, Int.reduceEq, Int.reduceLT, Int.reduceLE, Int.reduceNeg, Value.cells, Value.oneCell', Nat.reduceAdd, Nat.reduceEqDiff, fillL, setL, Nat.reduceLeDiff, g40, g41, hkl]
      refine hK _ _ ?_
      clear hK K
      refine w_seq ?_
      refine w_true (by simp only [ev_tmp, ev_const, upd_apply, Nat.reduceBEq, cond_true, cond_false, Bool.not_true, Bool.not_false, ]) ?_
      refine w_skip ?_
      repeat (first | with_reducible refine q_n ?_ | with_reducible refine q_e ?_ | with_reducible refine q_r ?_ | with_reducible refine bq_n ?_ | with_reducible refine bq_e ?_ | with_reducible refine bq_r ?_ | with_reducible refine bq_o rfl ?_)
      refine w_seq (w_blk ?_)
      refine w_reg fun K hK => ?_
      simp (disch := omega) only [↓wD, ↓i_cbs, ↓i_csk, wU, b_and, b_or, b_shl, b_shr, Nat.reduceBEq, reduceCtorEq, Int.reduceEq, Int.reduceLT, Int.reduceLE, Int.reduceNeg, Value.cells, Value.oneCell', Nat.reduceAdd, Nat.reduceEqDiff, fillL, setL, Nat.reduceLeDiff, g39, g41, hkl, q0, q1, q2, q3]
      refine hK _ _ ?_
      clear hK K
      rw [← eac]
      have hEd : Ext HA (HA.push (.cells acs.toArray 98)) := (Ext.refl _).push _
      have hb8 : HA.size < (HA.push (.cells acs.toArray 98)).size := by simp
      have hr8 : rdn (HA.push (.cells acs.toArray 98)) HA.size 0 4 = some acs := by
        rw [rdn_new HA acs 98 0 4 (by rw [eac]; exact Nat.le_refl _), eac]; rfl
      generalize HA.push (.cells acs.toArray 98) = Hd at hEd hb8 hr8 ⊢
      have hWd := hWA.ext hEd
      have hpA := cell_lt hWA.c0
      have hpd := cell_lt hWd.c0
      have hb8M : ¬ MA HA.size ∧ HA.size ≠ p := ⟨fun hm => by have := hWA.lt _ hm; omega, by omega⟩
      rw [eac] at hr8
      obtain ⟨u0, u1, u2, u3⟩ := rdn4 hr8
      simp only [Nat.zero_add] at u0 u1 u2 u3
      have hck : IntKind.i64.wrap ((l[i]).acts[k]).kind = ((l[i]).acts[k]).kind := wr64 (by omega) (by omega)
      have hkI : I64 ((l[i]).acts[k]).kind := ⟨by omega, by omega⟩
      have hvz' : ((l[i]).acts[k]).value.size ≤ 140737488355328 := hvz
      have hwA : actW (l[i]).acts[k] = ((l[i]).acts[k]).value.size + 40 := rfl
      have hlA : (bs5 ++ ((l[i]).acts.take k).flatMap actE).length + ((l[i]).acts[k]).value.size + 60 ≤ 140737488355328 := by
        rw [List.length_append]; omega
      generalize hspA : (sp5 || !((l[i]).acts.take k).all actOk) = spA at hWA hWd
      generalize hbsA : bs5 ++ ((l[i]).acts.take k).flatMap actE = bsA at hWA hWd hlA
      refine w_alc1 (fun x => x = HA.size) (fun x => MA x ∨ x = p) (fun x hx => hx.elim (hWd.lt x) fun e => e ▸ hpd) fun K hK => ?_
      simp (disch := omega) only [↓a_nil, ↓a_st, ↓a_new, ↓a_box, ↓a_bsl, ↓a_ac, ↓a_ft, ↓a_ff, p_nil, p_new, p_box, p_bsl, ↓ow_s, ↓ow_e, ↓ow_g, ↓l_nil, ↓l_f, ↓l_t, ↓o_s, ↓o_e, ↓o_g, ↓o_ge, ↓k_ld, ↓k_ldn, isemS, ↓wD, ↓i_cbs, ↓i_csk, wU, b_and, b_or, b_shl, b_shr, Nat.reduceBEq, reduceCtorEq, Int.reduceEq, Int.reduceLT, Int.reduceLE, Int.reduceNeg, Value.cells, Value.oneCell', Nat.reduceAdd, Nat.reduceEqDiff, fillL, setL, Nat.reduceLeDiff, g0, u0, u2, u3, hck, num_abs]
      refine w_al fun y1 G1 gE1 hny1 hby1 hFy1 hAy1 hcy1 => ?_
      simp (disch := omega) only [↓a_nil, ↓a_st, ↓a_new, ↓a_box, ↓a_bsl, ↓a_ac, ↓a_ft, ↓a_ff, p_nil, p_new, p_box, p_bsl, ↓ow_s, ↓ow_e, ↓ow_g, ↓l_nil, ↓l_f, ↓l_t, ↓o_s, ↓o_e, ↓o_g, ↓o_ge, ↓k_ld, ↓k_ldn, isemS, ↓wD, ↓i_cbs, ↓i_csk, wU, b_and, b_or, b_shl, b_shr, Nat.reduceBEq, reduceCtorEq, Int.reduceEq, Int.reduceLT, Int.reduceLE, Int.reduceNeg, Value.cells, Value.oneCell', Nat.reduceAdd, Nat.reduceEqDiff, fillL, setL, Nat.reduceLeDiff, g0, num_abs]
      refine w_ac fun G2 gE2 => ?_
      simp (disch := omega) only [↓a_nil, ↓a_st, ↓a_new, ↓a_box, ↓a_bsl, ↓a_ac, ↓a_ft, ↓a_ff, p_nil, p_new, p_box, p_bsl, ↓ow_s, ↓ow_e, ↓ow_g, ↓l_nil, ↓l_f, ↓l_t, ↓o_s, ↓o_e, ↓o_g, ↓o_ge, ↓k_ld, ↓k_ldn, isemS, ↓wD, ↓i_cbs, ↓i_csk, wU, b_and, b_or, b_shl, b_shr, Nat.reduceBEq, reduceCtorEq, Int.reduceEq, Int.reduceLT, Int.reduceLE, Int.reduceNeg, Value.cells, Value.oneCell', Nat.reduceAdd, Nat.reduceEqDiff, fillL, setL, Nat.reduceLeDiff, g0]
      have gd2 := gE1.trans gE2
      have gF1 : ¬ MA y1 ∧ y1 ≠ p := ⟨fun h => hFy1 (.inl h), fun h => hFy1 (.inr h)⟩
      refine w_call (Numbers_cl (hWd.ext gd2) (one_int ((gE2.2 y1 hby1).trans hcy1) hkI) (fun x hx => by subst hx; exact gF1) (by simp only [List.length_cons, List.length_nil]; omega)) ?_
      rintro _ G3 ⟨rfl, hQ3⟩
      simp (disch := omega) only [↓a_nil, ↓a_st, ↓a_new, ↓a_box, ↓a_bsl, ↓a_ac, ↓a_ft, ↓a_ff, p_nil, p_new, p_box, p_bsl, ↓ow_s, ↓ow_e, ↓ow_g, ↓l_nil, ↓l_f, ↓l_t, ↓o_s, ↓o_e, ↓o_g, ↓o_ge, ↓k_ld, ↓k_ldn, isemS, ↓wD, ↓i_cbs, ↓i_csk, wU, b_and, b_or, b_shl, b_shr, Nat.reduceBEq, reduceCtorEq, Int.reduceEq, Int.reduceLT, Int.reduceLE, Int.reduceNeg, Value.cells, Value.oneCell', Nat.reduceAdd, Nat.reduceEqDiff, fillL, setL, Nat.reduceLeDiff, ]
      have gp2 := Nat.lt_of_lt_of_le hpd gd2.1
      refine acP_wr rfl (fun x hx => by subst hx; exact hb8M) gp2 hQ3 fun N3 w3 hX3 hN3 => ?_
      have hQd3 := WrP.pre gd2 hQ3
      have hN3d : ∀ x, N3 x → MA x ∨ Hd.size ≤ x := fun x hx => (hN3 x hx).imp id fun h => Nat.le_trans gd2.1 h
      have hb8N3 : ¬ N3 HA.size ∧ HA.size ≠ p := ⟨fun hm => (hN3d _ hm).elim hb8M.1 (by omega), hb8M.2⟩
      have gl3 := numsE_len [((l[i]).acts[k]).kind]
      simp only [List.length_cons, List.length_nil] at gl3
      refine w_al fun y2 G4 gE4 hny2 hby2 hFy2 hAy2 hcy2 => ?_
      simp (disch := omega) only [↓a_nil, ↓a_st, ↓a_new, ↓a_box, ↓a_bsl, ↓a_ac, ↓a_ft, ↓a_ff, p_nil, p_new, p_box, p_bsl, ↓ow_s, ↓ow_e, ↓ow_g, ↓l_nil, ↓l_f, ↓l_t, ↓o_s, ↓o_e, ↓o_g, ↓o_ge, ↓k_ld, ↓k_ldn, isemS, ↓wD, ↓i_cbs, ↓i_csk, wU, b_and, b_or, b_shl, b_shr, Nat.reduceBEq, reduceCtorEq, Int.reduceEq, Int.reduceLT, Int.reduceLE, Int.reduceNeg, Value.cells, Value.oneCell', Nat.reduceAdd, Nat.reduceEqDiff, fillL, setL, Nat.reduceLeDiff, ]
      refine w_ac fun G5 gE5 => ?_
      simp (disch := omega) only [↓a_nil, ↓a_st, ↓a_new, ↓a_box, ↓a_bsl, ↓a_ac, ↓a_ft, ↓a_ff, p_nil, p_new, p_box, p_bsl, ↓ow_s, ↓ow_e, ↓ow_g, ↓l_nil, ↓l_f, ↓l_t, ↓o_s, ↓o_e, ↓o_g, ↓o_ge, ↓k_ld, ↓k_ldn, isemS, ↓wD, ↓i_cbs, ↓i_csk, wU, b_and, b_or, b_shl, b_shr, Nat.reduceBEq, reduceCtorEq, Int.reduceEq, Int.reduceLT, Int.reduceLE, Int.reduceNeg, Value.cells, Value.oneCell', Nat.reduceAdd, Nat.reduceEqDiff, fillL, setL, Nat.reduceLeDiff, ]
      have g45 := gE4.trans gE5
      have gF2 : ¬ N3 y2 ∧ y2 ≠ p := ⟨fun h => hFy2 (.inl h), fun h => hFy2 (.inr h)⟩
      refine w_call (Texts_cl (hX3.ext g45) (one_str ((gE5.2 y2 hby2).trans hcy2) hvz) (fun x hx => by subst hx; exact gF2) (by simp [szs]; omega)) ?_
      rintro _ G6 ⟨rfl, hQ6⟩
      simp (disch := omega) only [↓a_nil, ↓a_st, ↓a_new, ↓a_box, ↓a_bsl, ↓a_ac, ↓a_ft, ↓a_ff, p_nil, p_new, p_box, p_bsl, ↓ow_s, ↓ow_e, ↓ow_g, ↓l_nil, ↓l_f, ↓l_t, ↓o_s, ↓o_e, ↓o_g, ↓o_ge, ↓k_ld, ↓k_ldn, isemS, ↓wD, ↓i_cbs, ↓i_csk, wU, b_and, b_or, b_shl, b_shr, Nat.reduceBEq, reduceCtorEq, Int.reduceEq, Int.reduceLT, Int.reduceLE, Int.reduceNeg, Value.cells, Value.oneCell', Nat.reduceAdd, Nat.reduceEqDiff, fillL, setL, Nat.reduceLeDiff, ]
      have gp5 := Nat.lt_of_lt_of_le (cell_lt hX3.c0) g45.1
      refine acP_wr rfl (fun x hx => by subst hx; exact hb8N3) gp5 hQ6 fun N6 w6 hX6 hN6 => ?_
      have hQd6 := WrP.next hpd hWd.lt hQd3 hN3d g45 hQ6
      have hs3d := hQd3.1.1
      have hN6d : ∀ x, N6 x → MA x ∨ Hd.size ≤ x := fun x hx => (hN6 x hx).elim (hN3d x) fun h => .inr (by have := g45.1; omega)
      have hb8N6 : ¬ N6 HA.size ∧ HA.size ≠ p := ⟨fun hm => (hN6d _ hm).elim hb8M.1 (by omega), hb8M.2⟩
      have gl6 := textE_len _ hvz
      refine w_al fun y3 G7 gE7 hny3 hby3 hFy3 hAy3 hcy3 => ?_
      simp (disch := omega) only [↓a_nil, ↓a_st, ↓a_new, ↓a_box, ↓a_bsl, ↓a_ac, ↓a_ft, ↓a_ff, p_nil, p_new, p_box, p_bsl, ↓ow_s, ↓ow_e, ↓ow_g, ↓l_nil, ↓l_f, ↓l_t, ↓o_s, ↓o_e, ↓o_g, ↓o_ge, ↓k_ld, ↓k_ldn, isemS, ↓wD, ↓i_cbs, ↓i_csk, wU, b_and, b_or, b_shl, b_shr, Nat.reduceBEq, reduceCtorEq, Int.reduceEq, Int.reduceLT, Int.reduceLE, Int.reduceNeg, Value.cells, Value.oneCell', Nat.reduceAdd, Nat.reduceEqDiff, fillL, setL, Nat.reduceLeDiff, ]
      refine w_ac fun G8 gE8 => ?_
      simp (disch := omega) only [↓a_nil, ↓a_st, ↓a_new, ↓a_box, ↓a_bsl, ↓a_ac, ↓a_ft, ↓a_ff, p_nil, p_new, p_box, p_bsl, ↓ow_s, ↓ow_e, ↓ow_g, ↓l_nil, ↓l_f, ↓l_t, ↓o_s, ↓o_e, ↓o_g, ↓o_ge, ↓k_ld, ↓k_ldn, isemS, ↓wD, ↓i_cbs, ↓i_csk, wU, b_and, b_or, b_shl, b_shr, Nat.reduceBEq, reduceCtorEq, Int.reduceEq, Int.reduceLT, Int.reduceLE, Int.reduceNeg, Value.cells, Value.oneCell', Nat.reduceAdd, Nat.reduceEqDiff, fillL, setL, Nat.reduceLeDiff, ]
      have g78 := gE7.trans gE8
      have gF3 : ¬ N6 y3 ∧ y3 ≠ p := ⟨fun h => hFy3 (.inl h), fun h => hFy3 (.inr h)⟩
      refine w_call (Flags_cl (hX6.ext g78) (one_flag ((gE8.2 y3 hby3).trans hcy3)) (fun x hx => by subst hx; exact gF3) (by simp; omega)) ?_
      rintro _ G9 ⟨rfl, hQ9⟩
      simp (disch := omega) only [↓a_nil, ↓a_st, ↓a_new, ↓a_box, ↓a_bsl, ↓a_ac, ↓a_ft, ↓a_ff, p_nil, p_new, p_box, p_bsl, ↓ow_s, ↓ow_e, ↓ow_g, ↓l_nil, ↓l_f, ↓l_t, ↓o_s, ↓o_e, ↓o_g, ↓o_ge, ↓k_ld, ↓k_ldn, isemS, ↓wD, ↓i_cbs, ↓i_csk, wU, b_and, b_or, b_shl, b_shr, Nat.reduceBEq, reduceCtorEq, Int.reduceEq, Int.reduceLT, Int.reduceLE, Int.reduceNeg, Value.cells, Value.oneCell', Nat.reduceAdd, Nat.reduceEqDiff, fillL, setL, Nat.reduceLeDiff, ]
      have gp8 := Nat.lt_of_lt_of_le (cell_lt hX6.c0) g78.1
      refine acP_wr rfl (fun x hx => by subst hx; exact hb8N6) gp8 hQ9 fun N9 w9 hX9 hN9 => ?_
      have hQd9 := WrP.next hpd hWd.lt hQd6 hN6d g78 hQ9
      have hs6d := hQd6.1.1
      have hN9d : ∀ x, N9 x → MA x ∨ Hd.size ≤ x := fun x hx => (hN9 x hx).elim (hN6d x) fun h => .inr (by have := g78.1; omega)
      have hb8N9 : ¬ N9 HA.size ∧ HA.size ≠ p := ⟨fun hm => (hN9d _ hm).elim hb8M.1 (by omega), hb8M.2⟩
      refine w_al fun y4 G10 gE10 hny4 hby4 hFy4 hAy4 hcy4 => ?_
      simp (disch := omega) only [↓a_nil, ↓a_st, ↓a_new, ↓a_box, ↓a_bsl, ↓a_ac, ↓a_ft, ↓a_ff, p_nil, p_new, p_box, p_bsl, ↓ow_s, ↓ow_e, ↓ow_g, ↓l_nil, ↓l_f, ↓l_t, ↓o_s, ↓o_e, ↓o_g, ↓o_ge, ↓k_ld, ↓k_ldn, isemS, ↓wD, ↓i_cbs, ↓i_csk, wU, b_and, b_or, b_shl, b_shr, Nat.reduceBEq, reduceCtorEq, Int.reduceEq, Int.reduceLT, Int.reduceLE, Int.reduceNeg, Value.cells, Value.oneCell', Nat.reduceAdd, Nat.reduceEqDiff, fillL, setL, Nat.reduceLeDiff, ]
      have gF4 : ¬ N9 y4 ∧ y4 ≠ p := ⟨fun h => hFy4 (.inl h), fun h => hFy4 (.inr h)⟩
      refine w_call (Numbers_cl (hX9.ext gE10) (one_int hcy4 (absI_ok hnb)) (fun x hx => by subst hx; exact gF4) (by simp; omega)) ?_
      rintro _ G11 ⟨rfl, hQ11⟩
      simp (disch := omega) only [↓a_nil, ↓a_st, ↓a_new, ↓a_box, ↓a_bsl, ↓a_ac, ↓a_ft, ↓a_ff, p_nil, p_new, p_box, p_bsl, ↓ow_s, ↓ow_e, ↓ow_g, ↓l_nil, ↓l_f, ↓l_t, ↓o_s, ↓o_e, ↓o_g, ↓o_ge, ↓k_ld, ↓k_ldn, isemS, ↓wD, ↓i_cbs, ↓i_csk, wU, b_and, b_or, b_shl, b_shr, Nat.reduceBEq, reduceCtorEq, Int.reduceEq, Int.reduceLT, Int.reduceLE, Int.reduceNeg, Value.cells, Value.oneCell', Nat.reduceAdd, Nat.reduceEqDiff, fillL, setL, Nat.reduceLeDiff, ]
      have hs9d := hQd9.1.1
      have hs10 := gE10.1
      refine ⟨⟨hQ11.1.1, fun x hx hs => by subst hs; exact hQ11.1.2 _ hx hb8N9⟩, ?_⟩
      refine hK _ _ ?_
      repeat (first | with_reducible refine q_n ?_ | with_reducible refine q_e ?_ | with_reducible refine q_r ?_ | with_reducible refine bq_n ?_ | with_reducible refine bq_e ?_ | with_reducible refine bq_r ?_ | with_reducible refine bq_o rfl ?_)
      have hQd11 := WrP.next hpd hWd.lt hQd9 hN9d gE10 hQ11
      refine w_reg1 fun K hK => ?_
      simp (disch := omega) only [↓wD, ↓i_cbs, ↓i_csk, wU, b_and, b_or, b_shl, b_shr, Nat.reduceBEq, reduceCtorEq, Int.reduceEq, Int.reduceLT, Int.reduceLE, Int.reduceNeg, Value.cells, Value.oneCell', Nat.reduceAdd, Nat.reduceEqDiff, fillL, setL, Nat.reduceLeDiff, g41]
      refine hK _ _ ?_
      clear hK K
      repeat (first | with_reducible refine q_n ?_ | with_reducible refine q_e ?_ | with_reducible refine q_r ?_ | with_reducible refine bq_n ?_ | with_reducible refine bq_e ?_ | with_reducible refine bq_r ?_ | with_reducible refine bq_o rfl ?_)
      refine ⟨(l[i]).acts.length - (k + 1), by omega, (by simp only [ev_tmp, ev_const, upd_apply, Nat.reduceBEq, cond_true, cond_false, g0]), (by simp only [ev_tmp, ev_const, upd_apply, Nat.reduceBEq, cond_true, cond_false, g6]), (by simp only [ev_tmp, ev_const, upd_apply, Nat.reduceBEq, cond_true, cond_false, g16]), (by simp only [ev_tmp, ev_const, upd_apply, Nat.reduceBEq, cond_true, cond_false, g17]), (by simp only [ev_tmp, ev_const, upd_apply, Nat.reduceBEq, cond_true, cond_false, g18]), (by simp only [ev_tmp, ev_const, upd_apply, Nat.reduceBEq, cond_true, cond_false, g39]), (by simp only [ev_tmp, ev_const, upd_apply, Nat.reduceBEq, cond_true, cond_false, g40]), k + 1, (by simp only [ev_tmp, ev_const, upd_apply, Nat.reduceBEq, cond_true, cond_false, ]), by omega, rfl, ?_⟩
      have hfin := WrP.trans hpc hWc.lt hkA hMA (WrP.pre hEd hQd11)
      have e1 : (spA || ![((l[i]).acts[k]).kind].all numOk || ![absI ((l[i]).acts[k]).num].all numOk) = (sp5 || !((l[i]).acts.take (k + 1)).all actOk) := by
        rw [← hspA, htakeA, List.all_append]
        simp only [List.all_cons, List.all_nil, Bool.and_true, actOk]
        cases sp5 <;> cases ((l[i]).acts.take k).all actOk <;> cases numOk ((l[i]).acts[k]).kind <;> cases numOk (absI ((l[i]).acts[k]).num) <;> rfl
      have e2 : bsA ++ numsE [((l[i]).acts[k]).kind] ++ [((l[i]).acts[k]).value].flatMap textE ++ [decide (((l[i]).acts[k]).num < 0)].map flagE ++ numsE [absI ((l[i]).acts[k]).num] = bs5 ++ ((l[i]).acts.take (k + 1)).flatMap actE := by
        rw [← hbsA, htakeA, snoc_flat]
        simp [actE]
      rw [← e1, ← e2]
      exact hfin
    · refine w_reg fun K hK => ?_
      simp (disch := omega) only [↓wD, ↓i_cbs, ↓i_csk, wU, b_and, b_or, b_shl, b_shr, Nat.reduceBEq, reduceCtorEq, Int.reduceEq, Int.reduceLT, Int.reduceLE, Int.reduceNeg, Value.cells, Value.oneCell', Nat.reduceAdd, Nat.reduceEqDiff, fillL, setL, Nat.reduceLeDiff, g40, g41, hkl]
      refine hK _ _ ?_
      clear hK K
      refine w_seq ?_
      refine w_false (by simp only [ev_tmp, ev_const, upd_apply, Nat.reduceBEq, cond_true, cond_false, Bool.not_true, Bool.not_false, ]) ?_
      refine w_exit ?_
      repeat (first | with_reducible refine q_n ?_ | with_reducible refine q_e ?_ | with_reducible refine q_r ?_ | with_reducible refine bq_n ?_ | with_reducible refine bq_e ?_ | with_reducible refine bq_r ?_ | with_reducible refine bq_o rfl ?_)
      have hfullA : (l[i]).acts.take k = (l[i]).acts := List.take_of_length_le (by omega)
      rw [hfullA] at hPA
      obtain ⟨e0, e1, e2, e3, e4, e5, e6⟩ := rdn7 (ecs ▸ (stab hPA).1)
      simp only [Nat.zero_add] at e0 e1 e2 e3 e4 e5 e6
      have hal := flat_all (e := actE) (w := actW) hawl
      -- how many reads
      obtain ⟨hkA, MA, vA, hWA, hMA⟩ := hPA
      refine w_reg fun K hK => ?_
      simp (disch := omega) only [↓wD, ↓i_cbs, ↓i_csk, wU, b_and, b_or, b_shl, b_shr, Nat.reduceBEq, reduceCtorEq, Int.reduceEq, Int.reduceLT, Int.reduceLE, Int.reduceNeg, Value.cells, Value.oneCell', Nat.reduceAdd, Nat.reduceEqDiff, fillL, setL, Nat.reduceLeDiff, g0, g6, e4]
      have hEr : Ext HA (HA.push (.cells #[.int .i64 (l[i]).reads.length] 3)) := (Ext.refl _).push _
      have hIr : ISl (fun x => x = HA.size) (HA.push (.cells #[.int .i64 (l[i]).reads.length] 3)) (.slice (some ⟨HA.size, 0, none⟩) 1 1) [((l[i]).reads.length : Int)] := one_int (t := 3) (by simp) (nlen_ok hrll).1
      refine w_call (Numbers_cl (hWA.ext hEr) hIr (fun x hx => ⟨fun hm => by have := hWA.lt x hm; omega, by have := cell_lt hWA.c0; omega⟩) (by simp only [List.length_append, List.length_cons, List.length_nil]; omega)) ?_
      rintro _ HB ⟨rfl, hPB⟩
      simp (disch := omega) only [↓wD, ↓i_cbs, ↓i_csk, wU, b_and, b_or, b_shl, b_shr, Nat.reduceBEq, reduceCtorEq, Int.reduceEq, Int.reduceLT, Int.reduceLE, Int.reduceNeg, Value.cells, Value.oneCell', Nat.reduceAdd, Nat.reduceEqDiff, fillL, setL, Nat.reduceLeDiff, ]
      refine hK _ _ ?_
      clear hK K
      have hPcB := WrP.next hpc hWc.lt ⟨hkA, MA, vA, hWA, hMA⟩ hMA hEr hPB
      obtain ⟨spB, hspB, bsB, hbsB, hPcB⟩ : ∃ spB, spB = (sp5 || !(l[i]).acts.all actOk) ∧ ∃ bsB, bsB = bs5 ++ (l[i]).acts.flatMap actE ++ numsE [((l[i]).reads.length : Int)] ∧ WrP M' Hc p spB bsB HB := by
        refine ⟨_, rfl, _, rfl, ?_⟩
        have e1 : (sp5 || !(l[i]).acts.all actOk || ![((l[i]).reads.length : Int)].all numOk) = (sp5 || !(l[i]).acts.all actOk) := by simp [(nlen_ok hrll).2]
        rw [e1] at hPcB
        exact hPcB
      have hbsBl : bsB.length + (l[i]).value.size + 40 + ((l[i]).reads.map readW).sum ≤ 140737488355328 := by
        subst hbsB
        have := numsE_len [((l[i]).reads.length : Int)]
        simp only [List.length_append, List.length_cons, List.length_nil] at this ⊢
        omega
      clear hPB hWA hMA hkA hIr hEr
      obtain ⟨e0, e1, e2, e3, e4, e5, e6⟩ := rdn7 (ecs ▸ (stab hPcB).1)
      simp only [Nat.zero_add] at e0 e1 e2 e3 e4 e5 e6
      have hrwl : ∀ r ∈ (l[i]).reads, (readE r).length ≤ readW r := by
        obtain ⟨_, _, -, -, -, hre⟩ := SlP.open hr
        intro r hr
        obtain ⟨j, hj, rfl⟩ := List.getElem_of_mem hr
        obtain ⟨_, _, -, -, _, -, -, -, hz⟩ := hre j hj
        exact readE_len hz
      refine w_seq (w_seq ?_)
      refine w_reg fun K hK => ?_
      simp (disch := omega) only [↓wD, ↓i_cbs, ↓i_csk, wU, b_and, b_or, b_shl, b_shr, Nat.reduceBEq, reduceCtorEq, Int.reduceEq, Int.reduceLT, Int.reduceLE, Int.reduceNeg, Value.cells, Value.oneCell', Nat.reduceAdd, Nat.reduceEqDiff, fillL, setL, Nat.reduceLeDiff, g6, e4]
      refine hK _ _ ?_
      clear hK K
      refine w_blk (w_loop (fun n' f H' => f 0 = .pointer (some ⟨p, 0, none⟩) ∧ f 6 = .pointer (some ⟨B6, 0, none⟩) ∧ f 16 = .slice (some ⟨b, o, none⟩) l.length c ∧ f 17 = .int .i64 l.length ∧ f 18 = .int .i64 i ∧ f 76 = .slice ra (l[i]).reads.length rac ∧ f 77 = .int .i64 (l[i]).reads.length ∧ ∃ k : Nat, f 78 = .int .i64 k ∧ k ≤ (l[i]).reads.length ∧ n' = (l[i]).reads.length - k ∧ WrP M' Hc p spB (bsB ++ ((l[i]).reads.take k).flatMap readE) H') (l[i]).reads.length ⟨(by simp only [ev_tmp, ev_const, upd_apply, Nat.reduceBEq, cond_true, cond_false, g0]), (by simp only [ev_tmp, ev_const, upd_apply, Nat.reduceBEq, cond_true, cond_false, g6]), (by simp only [ev_tmp, ev_const, upd_apply, Nat.reduceBEq, cond_true, cond_false, g16]), (by simp only [ev_tmp, ev_const, upd_apply, Nat.reduceBEq, cond_true, cond_false, g17]), (by simp only [ev_tmp, ev_const, upd_apply, Nat.reduceBEq, cond_true, cond_false, g18]), (by simp only [ev_tmp, ev_const, upd_apply, Nat.reduceBEq, cond_true, cond_false, ]), (by simp only [ev_tmp, ev_const, upd_apply, Nat.reduceBEq, cond_true, cond_false, ]), 0, (by simp only [ev_tmp, ev_const, upd_apply, Nat.reduceBEq, cond_true, cond_false, ]; rfl), Nat.zero_le _, rfl, by simpa using hPcB⟩ ?_)
      clear g0 g6 g16 g17 g18 g39 g40 g41
      clear g
      rintro n' g HA ⟨g0, g6, g16, g17, g18, g76, g77, k, g78, hk4, rfl, hPA⟩
      by_cases hkl : k < (l[i]).reads.length
      · obtain ⟨-, -, hreadsA⟩ := stab hPA
        obtain ⟨ra', rac', era, -, -, hre⟩ := SlP.open hreadsA
        obtain ⟨rfl, -, -⟩ := Value.slice.inj era
        obtain ⟨ab, ao, rfl, hSa, acs, hacs, eac, hkz, hvz⟩ := hre k hkl
        have hacs' := hacs
        rw [eac] at hacs'
        obtain ⟨q0, q1, q2⟩ := rdn3 hacs'
        have hroomA := flat_le (e := readE) (w := readW) hrwl k hkl
        have htakeA : (l[i]).reads.take (k + 1) = (l[i]).reads.take k ++ [(l[i]).reads[k]] := by
          rw [List.take_add_one, List.getElem?_eq_getElem hkl]; rfl
        obtain ⟨hkA, MA, vA, hWA, hMA⟩ := hPA
        refine w_reg fun K hK => ?_
        simp (disch := omega) only [↓wD, ↓i_cbs, ↓i_csk, wU, b_and, b_or, b_shl, b_shr, Nat.reduceBEq, reduceCtorEq, Int.reduceEq, Int.reduceLT, Int.reduceLE, Int.reduceNeg, Value.cells, Value.oneCell', Nat.reduceAdd, Nat.reduceEqDiff, fillL, setL, Nat.reduceLeDiff, g77, g78, hkl]
        refine hK _ _ ?_
        clear hK K
        refine w_seq ?_
        refine w_true (by simp only [ev_tmp, ev_const, upd_apply, Nat.reduceBEq, cond_true, cond_false, Bool.not_true, Bool.not_false, ]) ?_
        refine w_skip ?_
        repeat (first | with_reducible refine q_n ?_ | with_reducible refine q_e ?_ | with_reducible refine q_r ?_ | with_reducible refine bq_n ?_ | with_reducible refine bq_e ?_ | with_reducible refine bq_r ?_ | with_reducible refine bq_o rfl ?_)
        refine w_seq (w_blk ?_)
        refine w_reg fun K hK => ?_
        simp (disch := omega) only [↓wD, ↓i_cbs, ↓i_csk, wU, b_and, b_or, b_shl, b_shr, Nat.reduceBEq, reduceCtorEq, Int.reduceEq, Int.reduceLT, Int.reduceLE, Int.reduceNeg, Value.cells, Value.oneCell', Nat.reduceAdd, Nat.reduceEqDiff, fillL, setL, Nat.reduceLeDiff, g76, g78, hkl, q0, q1, q2]
        refine hK _ _ ?_
        clear hK K
        rw [← eac]
        have hEd : Ext HA (HA.push (.cells acs.toArray 100)) := (Ext.refl _).push _
        have hb8 : HA.size < (HA.push (.cells acs.toArray 100)).size := by simp
        have hr8 : rdn (HA.push (.cells acs.toArray 100)) HA.size 0 3 = some acs := by
          rw [rdn_new HA acs 100 0 3 (by rw [eac]; exact Nat.le_refl _), eac]; rfl
        generalize HA.push (.cells acs.toArray 100) = Hd at hEd hb8 hr8 ⊢
        have hWd := hWA.ext hEd
        have hpA := cell_lt hWA.c0
        have hpd := cell_lt hWd.c0
        have hb8M : ¬ MA HA.size ∧ HA.size ≠ p := ⟨fun hm => by have := hWA.lt _ hm; omega, by omega⟩
        rw [eac] at hr8
        obtain ⟨u0, u1, u2⟩ := rdn3 hr8
        simp only [Nat.zero_add] at u0 u1 u2
        have hvz' : ((l[i]).reads[k]).value.size ≤ 140737488355328 := hvz
        have hwA : readW (l[i]).reads[k] = ((l[i]).reads[k]).value.size + 20 := rfl
        have hlA : (bsB ++ ((l[i]).reads.take k).flatMap readE).length + ((l[i]).reads[k]).value.size + 40 ≤ 140737488355328 := by
          rw [List.length_append]; omega
        generalize hbsA : bsB ++ ((l[i]).reads.take k).flatMap readE = bsA at hWA hWd hlA
        refine w_alc1 (fun x => x = HA.size) (fun x => MA x ∨ x = p) (fun x hx => hx.elim (hWd.lt x) fun e => e ▸ hpd) fun K hK => ?_
        simp (disch := omega) only [↓a_nil, ↓a_st, ↓a_new, ↓a_box, ↓a_bsl, ↓a_ac, ↓a_ft, ↓a_ff, p_nil, p_new, p_box, p_bsl, ↓ow_s, ↓ow_e, ↓ow_g, ↓l_nil, ↓l_f, ↓l_t, ↓o_s, ↓o_e, ↓o_g, ↓o_ge, ↓k_ld, ↓k_ldn, isemS, ↓wD, ↓i_cbs, ↓i_csk, wU, b_and, b_or, b_shl, b_shr, Nat.reduceBEq, reduceCtorEq, Int.reduceEq, Int.reduceLT, Int.reduceLE, Int.reduceNeg, Value.cells, Value.oneCell', Nat.reduceAdd, Nat.reduceEqDiff, fillL, setL, Nat.reduceLeDiff, g0, u1, u2]
        refine w_al fun y1 G1 gE1 hny1 hby1 hFy1 hAy1 hcy1 => ?_
        simp (disch := omega) only [↓a_nil, ↓a_st, ↓a_new, ↓a_box, ↓a_bsl, ↓a_ac, ↓a_ft, ↓a_ff, p_nil, p_new, p_box, p_bsl, ↓ow_s, ↓ow_e, ↓ow_g, ↓l_nil, ↓l_f, ↓l_t, ↓o_s, ↓o_e, ↓o_g, ↓o_ge, ↓k_ld, ↓k_ldn, isemS, ↓wD, ↓i_cbs, ↓i_csk, wU, b_and, b_or, b_shl, b_shr, Nat.reduceBEq, reduceCtorEq, Int.reduceEq, Int.reduceLT, Int.reduceLE, Int.reduceNeg, Value.cells, Value.oneCell', Nat.reduceAdd, Nat.reduceEqDiff, fillL, setL, Nat.reduceLeDiff, g0]
        refine w_ac fun G2 gE2 => ?_
        simp (disch := omega) only [↓a_nil, ↓a_st, ↓a_new, ↓a_box, ↓a_bsl, ↓a_ac, ↓a_ft, ↓a_ff, p_nil, p_new, p_box, p_bsl, ↓ow_s, ↓ow_e, ↓ow_g, ↓l_nil, ↓l_f, ↓l_t, ↓o_s, ↓o_e, ↓o_g, ↓o_ge, ↓k_ld, ↓k_ldn, isemS, ↓wD, ↓i_cbs, ↓i_csk, wU, b_and, b_or, b_shl, b_shr, Nat.reduceBEq, reduceCtorEq, Int.reduceEq, Int.reduceLT, Int.reduceLE, Int.reduceNeg, Value.cells, Value.oneCell', Nat.reduceAdd, Nat.reduceEqDiff, fillL, setL, Nat.reduceLeDiff, g0]
        have gd2 := gE1.trans gE2
        have gF1 : ¬ MA y1 ∧ y1 ≠ p := ⟨fun h => hFy1 (.inl h), fun h => hFy1 (.inr h)⟩
        refine w_call (Flags_cl (hWd.ext gd2) (one_flag ((gE2.2 y1 hby1).trans hcy1)) (fun x hx => by subst hx; exact gF1) (by simp only [List.length_cons, List.length_nil]; omega)) ?_
        rintro _ G3 ⟨rfl, hQ3⟩
        simp (disch := omega) only [↓a_nil, ↓a_st, ↓a_new, ↓a_box, ↓a_bsl, ↓a_ac, ↓a_ft, ↓a_ff, p_nil, p_new, p_box, p_bsl, ↓ow_s, ↓ow_e, ↓ow_g, ↓l_nil, ↓l_f, ↓l_t, ↓o_s, ↓o_e, ↓o_g, ↓o_ge, ↓k_ld, ↓k_ldn, isemS, ↓wD, ↓i_cbs, ↓i_csk, wU, b_and, b_or, b_shl, b_shr, Nat.reduceBEq, reduceCtorEq, Int.reduceEq, Int.reduceLT, Int.reduceLE, Int.reduceNeg, Value.cells, Value.oneCell', Nat.reduceAdd, Nat.reduceEqDiff, fillL, setL, Nat.reduceLeDiff, ]
        have gp2 := Nat.lt_of_lt_of_le hpd gd2.1
        refine acP_wr rfl (fun x hx => by subst hx; exact hb8M) gp2 hQ3 fun N3 w3 hX3 hN3 => ?_
        have hQd3 := WrP.pre gd2 hQ3
        have hN3d : ∀ x, N3 x → MA x ∨ Hd.size ≤ x := fun x hx => (hN3 x hx).imp id fun h => Nat.le_trans gd2.1 h
        have hb8N3 : ¬ N3 HA.size ∧ HA.size ≠ p := ⟨fun hm => (hN3d _ hm).elim hb8M.1 (by omega), hb8M.2⟩
        refine w_al fun y2 G4 gE4 hny2 hby2 hFy2 hAy2 hcy2 => ?_
        simp (disch := omega) only [↓a_nil, ↓a_st, ↓a_new, ↓a_box, ↓a_bsl, ↓a_ac, ↓a_ft, ↓a_ff, p_nil, p_new, p_box, p_bsl, ↓ow_s, ↓ow_e, ↓ow_g, ↓l_nil, ↓l_f, ↓l_t, ↓o_s, ↓o_e, ↓o_g, ↓o_ge, ↓k_ld, ↓k_ldn, isemS, ↓wD, ↓i_cbs, ↓i_csk, wU, b_and, b_or, b_shl, b_shr, Nat.reduceBEq, reduceCtorEq, Int.reduceEq, Int.reduceLT, Int.reduceLE, Int.reduceNeg, Value.cells, Value.oneCell', Nat.reduceAdd, Nat.reduceEqDiff, fillL, setL, Nat.reduceLeDiff, ]
        have gF2 : ¬ N3 y2 ∧ y2 ≠ p := ⟨fun h => hFy2 (.inl h), fun h => hFy2 (.inr h)⟩
        refine w_call (Texts_cl (hX3.ext gE4) (one_str hcy2 hvz) (fun x hx => by subst hx; exact gF2) (by simp [szs]; omega)) ?_
        rintro _ G6 ⟨rfl, hQ6⟩
        simp (disch := omega) only [↓a_nil, ↓a_st, ↓a_new, ↓a_box, ↓a_bsl, ↓a_ac, ↓a_ft, ↓a_ff, p_nil, p_new, p_box, p_bsl, ↓ow_s, ↓ow_e, ↓ow_g, ↓l_nil, ↓l_f, ↓l_t, ↓o_s, ↓o_e, ↓o_g, ↓o_ge, ↓k_ld, ↓k_ldn, isemS, ↓wD, ↓i_cbs, ↓i_csk, wU, b_and, b_or, b_shl, b_shr, Nat.reduceBEq, reduceCtorEq, Int.reduceEq, Int.reduceLT, Int.reduceLE, Int.reduceNeg, Value.cells, Value.oneCell', Nat.reduceAdd, Nat.reduceEqDiff, fillL, setL, Nat.reduceLeDiff, ]
        have hs3d := hQd3.1.1
        have hs4d := gE4.1
        refine ⟨⟨hQ6.1.1, fun x hx hs => by subst hs; exact hQ6.1.2 _ hx hb8N3⟩, ?_⟩
        refine hK _ _ ?_
        repeat (first | with_reducible refine q_n ?_ | with_reducible refine q_e ?_ | with_reducible refine q_r ?_ | with_reducible refine bq_n ?_ | with_reducible refine bq_e ?_ | with_reducible refine bq_r ?_ | with_reducible refine bq_o rfl ?_)
        have hQd6 := WrP.next hpd hWd.lt hQd3 hN3d gE4 hQ6
        refine w_reg1 fun K hK => ?_
        simp (disch := omega) only [↓wD, ↓i_cbs, ↓i_csk, wU, b_and, b_or, b_shl, b_shr, Nat.reduceBEq, reduceCtorEq, Int.reduceEq, Int.reduceLT, Int.reduceLE, Int.reduceNeg, Value.cells, Value.oneCell', Nat.reduceAdd, Nat.reduceEqDiff, fillL, setL, Nat.reduceLeDiff, g78]
        refine hK _ _ ?_
        clear hK K
        repeat (first | with_reducible refine q_n ?_ | with_reducible refine q_e ?_ | with_reducible refine q_r ?_ | with_reducible refine bq_n ?_ | with_reducible refine bq_e ?_ | with_reducible refine bq_r ?_ | with_reducible refine bq_o rfl ?_)
        refine ⟨(l[i]).reads.length - (k + 1), by omega, (by simp only [ev_tmp, ev_const, upd_apply, Nat.reduceBEq, cond_true, cond_false, g0]), (by simp only [ev_tmp, ev_const, upd_apply, Nat.reduceBEq, cond_true, cond_false, g6]), (by simp only [ev_tmp, ev_const, upd_apply, Nat.reduceBEq, cond_true, cond_false, g16]), (by simp only [ev_tmp, ev_const, upd_apply, Nat.reduceBEq, cond_true, cond_false, g17]), (by simp only [ev_tmp, ev_const, upd_apply, Nat.reduceBEq, cond_true, cond_false, g18]), (by simp only [ev_tmp, ev_const, upd_apply, Nat.reduceBEq, cond_true, cond_false, g76]), (by simp only [ev_tmp, ev_const, upd_apply, Nat.reduceBEq, cond_true, cond_false, g77]), k + 1, (by simp only [ev_tmp, ev_const, upd_apply, Nat.reduceBEq, cond_true, cond_false, ]), by omega, rfl, ?_⟩
        have hfin := WrP.trans hpc hWc.lt hkA hMA (WrP.pre hEd hQd6)
        have e2 : bsA ++ [((l[i]).reads[k]).is].map flagE ++ [((l[i]).reads[k]).value].flatMap textE = bsB ++ ((l[i]).reads.take (k + 1)).flatMap readE := by
          rw [← hbsA, htakeA, snoc_flat]
          simp [readE]
        rw [← e2]
        exact hfin
      · refine w_reg fun K hK => ?_
        simp (disch := omega) only [↓wD, ↓i_cbs, ↓i_csk, wU, b_and, b_or, b_shl, b_shr, Nat.reduceBEq, reduceCtorEq, Int.reduceEq, Int.reduceLT, Int.reduceLE, Int.reduceNeg, Value.cells, Value.oneCell', Nat.reduceAdd, Nat.reduceEqDiff, fillL, setL, Nat.reduceLeDiff, g77, g78, hkl]
        refine hK _ _ ?_
        clear hK K
        refine w_seq ?_
        refine w_false (by simp only [ev_tmp, ev_const, upd_apply, Nat.reduceBEq, cond_true, cond_false, Bool.not_true, Bool.not_false, ]) ?_
        refine w_exit ?_
        repeat (first | with_reducible refine q_n ?_ | with_reducible refine q_e ?_ | with_reducible refine q_r ?_ | with_reducible refine bq_n ?_ | with_reducible refine bq_e ?_ | with_reducible refine bq_r ?_ | with_reducible refine bq_o rfl ?_)
        have hfullA : (l[i]).reads.take k = (l[i]).reads := List.take_of_length_le (by omega)
        rw [hfullA] at hPA
        have hrl := flat_all (e := readE) (w := readW) hrwl
        obtain ⟨e0, e1, e2, e3, e4, e5, e6⟩ := rdn7 (ecs ▸ (stab hPA).1)
        simp only [Nat.zero_add] at e0 e1 e2 e3 e4 e5 e6
        obtain ⟨hkA, MA, vA, hWA, hMA⟩ := hPA
        have hpA := cell_lt hWA.c0
        have hsA := hkA.1
        have hb6M : ¬ MA B6 ∧ B6 ≠ p := ⟨fun hm => (hMA _ hm).elim hb6M.1 (by omega), hb6M.2⟩
        have hval' : (l[i]).value.size ≤ 140737488355328 := hval
        refine w_alc1 (fun x => x = B6) (fun x => MA x ∨ x = p) (fun x hx => hx.elim (hWA.lt x) fun e => e ▸ hpA) fun K hK => ?_
        simp (disch := omega) only [↓a_nil, ↓a_st, ↓a_new, ↓a_box, ↓a_bsl, ↓a_ac, ↓a_ft, ↓a_ff, p_nil, p_new, p_box, p_bsl, ↓ow_s, ↓ow_e, ↓ow_g, ↓l_nil, ↓l_f, ↓l_t, ↓o_s, ↓o_e, ↓o_g, ↓o_ge, ↓k_ld, ↓k_ldn, isemS, ↓wD, ↓i_cbs, ↓i_csk, wU, b_and, b_or, b_shl, b_shr, Nat.reduceBEq, reduceCtorEq, Int.reduceEq, Int.reduceLT, Int.reduceLE, Int.reduceNeg, Value.cells, Value.oneCell', Nat.reduceAdd, Nat.reduceEqDiff, fillL, setL, Nat.reduceLeDiff, g0, g6, e5, e6]
        refine w_al fun y1 G1 gE1 hny1 hby1 hFy1 hAy1 hcy1 => ?_
        simp (disch := omega) only [↓a_nil, ↓a_st, ↓a_new, ↓a_box, ↓a_bsl, ↓a_ac, ↓a_ft, ↓a_ff, p_nil, p_new, p_box, p_bsl, ↓ow_s, ↓ow_e, ↓ow_g, ↓l_nil, ↓l_f, ↓l_t, ↓o_s, ↓o_e, ↓o_g, ↓o_ge, ↓k_ld, ↓k_ldn, isemS, ↓wD, ↓i_cbs, ↓i_csk, wU, b_and, b_or, b_shl, b_shr, Nat.reduceBEq, reduceCtorEq, Int.reduceEq, Int.reduceLT, Int.reduceLE, Int.reduceNeg, Value.cells, Value.oneCell', Nat.reduceAdd, Nat.reduceEqDiff, fillL, setL, Nat.reduceLeDiff, g0]
        refine w_ac fun G2 gE2 => ?_
        simp (disch := omega) only [↓a_nil, ↓a_st, ↓a_new, ↓a_box, ↓a_bsl, ↓a_ac, ↓a_ft, ↓a_ff, p_nil, p_new, p_box, p_bsl, ↓ow_s, ↓ow_e, ↓ow_g, ↓l_nil, ↓l_f, ↓l_t, ↓o_s, ↓o_e, ↓o_g, ↓o_ge, ↓k_ld, ↓k_ldn, isemS, ↓wD, ↓i_cbs, ↓i_csk, wU, b_and, b_or, b_shl, b_shr, Nat.reduceBEq, reduceCtorEq, Int.reduceEq, Int.reduceLT, Int.reduceLE, Int.reduceNeg, Value.cells, Value.oneCell', Nat.reduceAdd, Nat.reduceEqDiff, fillL, setL, Nat.reduceLeDiff, g0]
        have gd2 := gE1.trans gE2
        have gF1 : ¬ MA y1 ∧ y1 ≠ p := ⟨fun h => hFy1 (.inl h), fun h => hFy1 (.inr h)⟩
        refine w_call (Flags_cl (hWA.ext gd2) (one_flag ((gE2.2 y1 hby1).trans hcy1)) (fun x hx => by subst hx; exact gF1) (by simp only [List.length_append, List.length_cons, List.length_nil]; omega)) ?_
        rintro _ G3 ⟨rfl, hQ3⟩
        simp (disch := omega) only [↓a_nil, ↓a_st, ↓a_new, ↓a_box, ↓a_bsl, ↓a_ac, ↓a_ft, ↓a_ff, p_nil, p_new, p_box, p_bsl, ↓ow_s, ↓ow_e, ↓ow_g, ↓l_nil, ↓l_f, ↓l_t, ↓o_s, ↓o_e, ↓o_g, ↓o_ge, ↓k_ld, ↓k_ldn, isemS, ↓wD, ↓i_cbs, ↓i_csk, wU, b_and, b_or, b_shl, b_shr, Nat.reduceBEq, reduceCtorEq, Int.reduceEq, Int.reduceLT, Int.reduceLE, Int.reduceNeg, Value.cells, Value.oneCell', Nat.reduceAdd, Nat.reduceEqDiff, fillL, setL, Nat.reduceLeDiff, ]
        have gp2 := Nat.lt_of_lt_of_le hpA gd2.1
        refine acP_wr rfl (fun x hx => by subst hx; exact hb6M) gp2 hQ3 fun N3 w3 hX3 hN3 => ?_
        have hQd3 := WrP.pre gd2 hQ3
        have hN3d : ∀ x, N3 x → MA x ∨ HA.size ≤ x := fun x hx => (hN3 x hx).imp id fun h => Nat.le_trans gd2.1 h
        have hb6N3 : ¬ N3 B6 ∧ B6 ≠ p := ⟨fun hm => (hN3d _ hm).elim hb6M.1 (by omega), hb6M.2⟩
        refine w_al fun y2 G4 gE4 hny2 hby2 hFy2 hAy2 hcy2 => ?_
        simp (disch := omega) only [↓a_nil, ↓a_st, ↓a_new, ↓a_box, ↓a_bsl, ↓a_ac, ↓a_ft, ↓a_ff, p_nil, p_new, p_box, p_bsl, ↓ow_s, ↓ow_e, ↓ow_g, ↓l_nil, ↓l_f, ↓l_t, ↓o_s, ↓o_e, ↓o_g, ↓o_ge, ↓k_ld, ↓k_ldn, isemS, ↓wD, ↓i_cbs, ↓i_csk, wU, b_and, b_or, b_shl, b_shr, Nat.reduceBEq, reduceCtorEq, Int.reduceEq, Int.reduceLT, Int.reduceLE, Int.reduceNeg, Value.cells, Value.oneCell', Nat.reduceAdd, Nat.reduceEqDiff, fillL, setL, Nat.reduceLeDiff, ]
        have gF2 : ¬ N3 y2 ∧ y2 ≠ p := ⟨fun h => hFy2 (.inl h), fun h => hFy2 (.inr h)⟩
        refine w_call (Texts_cl (hX3.ext gE4) (one_str hcy2 hval) (fun x hx => by subst hx; exact gF2) (by simp only [szs, List.map_cons, List.map_nil, List.sum_cons, List.sum_nil, List.length_append, List.length_map, List.length_cons, List.length_nil]; omega)) ?_
        rintro _ G6 ⟨rfl, hQ6⟩
        simp (disch := omega) only [↓a_nil, ↓a_st, ↓a_new, ↓a_box, ↓a_bsl, ↓a_ac, ↓a_ft, ↓a_ff, p_nil, p_new, p_box, p_bsl, ↓ow_s, ↓ow_e, ↓ow_g, ↓l_nil, ↓l_f, ↓l_t, ↓o_s, ↓o_e, ↓o_g, ↓o_ge, ↓k_ld, ↓k_ldn, isemS, ↓wD, ↓i_cbs, ↓i_csk, wU, b_and, b_or, b_shl, b_shr, Nat.reduceBEq, reduceCtorEq, Int.reduceEq, Int.reduceLT, Int.reduceLE, Int.reduceNeg, Value.cells, Value.oneCell', Nat.reduceAdd, Nat.reduceEqDiff, fillL, setL, Nat.reduceLeDiff, ]
        have hs3d := hQd3.1.1
        have hs4d := gE4.1
        refine ⟨⟨hQ6.1.1, fun x hx hs => by subst hs; exact hQ6.1.2 _ hx hb6N3⟩, ?_⟩
        refine hK _ _ ?_
        repeat (first | with_reducible refine q_n ?_ | with_reducible refine q_e ?_ | with_reducible refine q_r ?_ | with_reducible refine bq_n ?_ | with_reducible refine bq_e ?_ | with_reducible refine bq_r ?_ | with_reducible refine bq_o rfl ?_)
        have hQd6 := WrP.next hpA hWA.lt hQd3 hN3d gE4 hQ6
        refine w_reg1 fun K hK => ?_
        simp (disch := omega) only [↓wD, ↓i_cbs, ↓i_csk, wU, b_and, b_or, b_shl, b_shr, Nat.reduceBEq, reduceCtorEq, Int.reduceEq, Int.reduceLT, Int.reduceLE, Int.reduceNeg, Value.cells, Value.oneCell', Nat.reduceAdd, Nat.reduceEqDiff, fillL, setL, Nat.reduceLeDiff, g18]
        refine hK _ _ ?_
        clear hK K
        repeat (first | with_reducible refine q_n ?_ | with_reducible refine q_e ?_ | with_reducible refine q_r ?_ | with_reducible refine bq_n ?_ | with_reducible refine bq_e ?_ | with_reducible refine bq_r ?_ | with_reducible refine bq_o rfl ?_)
        refine ⟨l.length - (i + 1), by omega, (by simp only [ev_tmp, ev_const, upd_apply, Nat.reduceBEq, cond_true, cond_false, g0]), (by simp only [ev_tmp, ev_const, upd_apply, Nat.reduceBEq, cond_true, cond_false, g16]), (by simp only [ev_tmp, ev_const, upd_apply, Nat.reduceBEq, cond_true, cond_false, g17]), i + 1, (by simp only [ev_tmp, ev_const, upd_apply, Nat.reduceBEq, cond_true, cond_false, ]), by omega, rfl, ?_⟩
        have hfin := WrP.trans hp hW.lt hk hM' (WrP.pre hEc (WrP.trans hpc hWc.lt hkA hMA hQd6))
        have q1 : spB = (sp || !(l.take (i + 1)).all holdOk) := by
          rw [hspB, hsp5, ← hsp, htake, List.all_append]
          simp only [List.all_cons, List.all_nil, Bool.and_true, holdOk]
          cases sp <;> cases (l.take i).all holdOk <;> cases numOk (l[i]).name.client <;> cases numOk (l[i]).name.num <;> cases (l[i]).acts.all actOk <;> rfl
        have q2 : bsB ++ (l[i]).reads.flatMap readE ++ [(l[i]).put].map flagE ++ [(l[i]).value].flatMap textE = B0 ++ (l.take (i + 1)).flatMap holdE := by
          rw [hbsB, hbs5, ← hbs, htake, snoc_flat]
          simp [holdE]
        rw [← q1, ← q2]
        exact hfin
  · refine w_reg fun K hK => ?_
    simp (disch := omega) only [↓wD, ↓i_cbs, ↓i_csk, wU, b_and, b_or, b_shl, b_shr, Nat.reduceBEq, reduceCtorEq, Int.reduceEq, Int.reduceLT, Int.reduceLE, Int.reduceNeg, Value.cells, Value.oneCell', Nat.reduceAdd, Nat.reduceEqDiff, fillL, setL, Nat.reduceLeDiff, f17, f18, hil]
    refine hK _ _ ?_
    clear hK K
    refine w_seq ?_
    refine w_false (by simp only [ev_tmp, ev_const, upd_apply, Nat.reduceBEq, cond_true, cond_false, Bool.not_true, Bool.not_false, ]) ?_
    refine w_exit ?_
    repeat (first | with_reducible refine q_n ?_ | with_reducible refine q_e ?_ | with_reducible refine q_r ?_ | with_reducible refine bq_n ?_ | with_reducible refine bq_e ?_ | with_reducible refine bq_r ?_ | with_reducible refine bq_o rfl ?_)
    have hfull : l.take i = l := List.take_of_length_le (by omega)
    rw [hfull] at hW'
    refine w_reg fun K hK => ?_
    simp (disch := omega) only [↓wD, ↓i_cbs, ↓i_csk, wU, b_and, b_or, b_shl, b_shr, Nat.reduceBEq, reduceCtorEq, Int.reduceEq, Int.reduceLT, Int.reduceLE, Int.reduceNeg, Value.cells, Value.oneCell', Nat.reduceAdd, Nat.reduceEqDiff, fillL, setL, Nat.reduceLeDiff, f0]
    refine hK _ _ ?_
    clear hK K
    refine w_ret ?_
    repeat (first | with_reducible refine q_n ?_ | with_reducible refine q_e ?_ | with_reducible refine q_r ?_ | with_reducible refine bq_n ?_ | with_reducible refine bq_e ?_ | with_reducible refine bq_r ?_ | with_reducible refine bq_o rfl ?_)
    refine ret1 (by (try simp only [ev_tmp, ev_const, upd_apply, Nat.reduceBEq, cond_true, cond_false, ]); rfl) ?_
    exact ⟨rfl, hk, M', v', hW', hM'⟩
end Go.WK
/-
  Holds out of bytes.
-/
namespace Go.WK
open Go Go.Proofs

abbrev St := Option (List UInt8)
theorem app_one {M : Nat → Prop} {H : Hp} {k t bytes : Nat} {z : List Value} {κ : Value → Hp → Prop} {v : Value} {css : List (List Value)} {cs : List Value} (hv : Row M H k v css) (hM : ∀ x, M x → x < H.size) (hc : cs.length = k ∧ One cs) (hz : z.length = k) (hb : bytes ≠ 0) (hsz : (css.length + 1) * bytes ≤ 140737488355328)
    (h : ∀ v' H', Row (fun x => M x ∨ x = H.size) H' k v' (css ++ [cs]) → KeepOn (fun x => ¬ M x) H H' → H'.size ≤ H.size + 1 → κ v' H') {a : Option Addr} {n c : Nat} (ha : v = .slice a n c) :
    @appK H t k bytes z a n c 1 cs ⟨κ⟩ := by
  have := app_row (t := t) (new := [cs]) hv hM (fun x hx => by simp at hx; subst hx; exact hc) hz hb (by simpa using hsz) h ha
  simpa using this
theorem as_one {H : Hp} {k b o c : Nat} : appSrc H k (.slice (some ⟨b, o, none⟩) 1 c) = (rdn H b o k).map fun l => (1, l) := by simp [appSrc]
def actR (key : ByteArray) (st : St) : (Ac × Bool) × St :=
  ((⟨(numR 3 st).1, key, (textR 20 (numR 3 st).2).1, if (flagR (textR 20 (numR 3 st).2).2).1 then -(numR 1073741824 (flagR (textR 20 (numR 3 st).2).2).2).1 else (numR 1073741824 (flagR (textR 20 (numR 3 st).2).2).2).1⟩,
    !(flagR (textR 20 (numR 3 st).2).2).1 || decide (0 < (numR 1073741824 (flagR (textR 20 (numR 3 st).2).2).2).1)), (numR 1073741824 (flagR (textR 20 (numR 3 st).2).2).2).2)
def actsL (key : ByteArray) : Nat → List Ac → Bool → St → (List Ac × Bool) × St
  | 0, l, ok, st => ((l, ok), st)
  | n + 1, l, ok, st => actsL key n (l ++ [(actR key st).1.1]) (ok && (actR key st).1.2) (actR key st).2
def actsR (key : ByteArray) (st : St) : (List Ac × Bool) × St := actsL key (numR 6 st).1.toNat [] true (numR 6 st).2
theorem actsL_len {key : ByteArray} : ∀ {n : Nat} {l : List Ac} {ok : Bool} {st : St}, (actsL key n l ok st).1.1.length = l.length + n
  | 0, l, ok, st => rfl
  | n + 1, l, ok, st => by rw [actsL, actsL_len]; simp; omega
theorem numR_bd (most : Int) (st : St) (h : 0 ≤ most) : 0 ≤ (numR most st).1 ∧ (numR most st).1 ≤ most := by
  obtain ⟨n, e, -⟩ := numR_nat most st
  exact ⟨by rw [e]; omega, numR_most most st h⟩
theorem textR_sz (most : Int) (st : St) (h : 0 ≤ most) (h2 : most ≤ 140737488355328) : Sz (textR most st).1 ∧ ((textR most st).1.size : Int) ≤ most := by
  have e : (textR most st).1.size = (rowR most st).1.length := by simp [textR, ByteArray.size]
  have hb := numR_bd most st h
  have : (rowR most st).1.length ≤ (numR most st).1.toNat := by
    unfold rowR
    cases (numR most st).2 with
    | none => simp
    | some l =>
      simp only
      split
      · simp
      · rw [List.length_take]; omega
  refine ⟨?_, by rw [e]; omega⟩
  unfold Sz big
  rw [e]; omega
theorem acts_cl {S : Nat → Prop} {H : Hp} {p : Nat} {st : St} {v : Value} {key : ByteArray} (h : Rr S H p st v) (hk : Sz key) :
    Cl Tryz.prog 136 [.pointer (some ⟨p, 0, none⟩), .string key] H fun r H' => RrP S H p (actsR key st).2 H' ∧ ∃ (u : Value) (M : Nat → Prop), r = .tuple #[u, .bool (actsR key st).1.2] ∧ (∀ x, M x → H.size ≤ x ∧ x < H'.size) ∧ AcSl M H' u (actsR key st).1.1 := by
  refine cl_of mixed c_holds_acts (Nat.le_of_ble_eq_true rfl) ?_
  simp only [fwp, ir_holds_acts, argF, Nat.reduceAdd]
  have hp := cell_lt h.c0
  refine w_reg fun K hK => ?_
  simp (disch := omega) only [↓wD, ↓i_cbs, ↓i_csk, wU, b_and, b_or, b_shl, b_shr, Nat.reduceBEq, reduceCtorEq, Int.reduceEq, Int.reduceLT, Int.reduceLE, Int.reduceNeg, Value.cells, Value.oneCell', Nat.reduceAdd, Nat.reduceEqDiff, fillL, setL, Nat.reduceLeDiff, ]
  refine hK _ _ ?_
  clear hK K
  refine w_reg fun K hK => ?_
  simp (disch := omega) only [↓wD, ↓i_cbs, ↓i_csk, wU, b_and, b_or, b_shl, b_shr, Nat.reduceBEq, reduceCtorEq, Int.reduceEq, Int.reduceLT, Int.reduceLE, Int.reduceNeg, Value.cells, Value.oneCell', Nat.reduceAdd, Nat.reduceEqDiff, fillL, setL, Nat.reduceLeDiff, ]
  refine hK _ _ ?_
  clear hK K
  refine w_seq (w_seq ?_)
  refine w_reg fun K hK => ?_
  simp (disch := omega) only [↓wD, ↓i_cbs, ↓i_csk, wU, b_and, b_or, b_shl, b_shr, Nat.reduceBEq, reduceCtorEq, Int.reduceEq, Int.reduceLT, Int.reduceLE, Int.reduceNeg, Value.cells, Value.oneCell', Nat.reduceAdd, Nat.reduceEqDiff, fillL, setL, Nat.reduceLeDiff, ]
  refine w_call (Number_cl (most := 6) h) ?_
  rintro _ H1 ⟨rfl, hk1, v1, hR1⟩
  obtain ⟨hn0, hn6⟩ := numR_bd 6 st (by omega)
  obtain ⟨n, hn⟩ : ∃ n : Nat, (numR 6 st).1 = n := ⟨(numR 6 st).1.toNat, by omega⟩
  have eR : actsR key st = actsL key n [] true (numR 6 st).2 := by unfold actsR; rw [hn, Int.toNat_natCast]
  rw [hn] at hn6
  simp (disch := omega) only [↓wD, ↓i_cbs, ↓i_csk, wU, b_and, b_or, b_shl, b_shr, Nat.reduceBEq, reduceCtorEq, Int.reduceEq, Int.reduceLT, Int.reduceLE, Int.reduceNeg, Value.cells, Value.oneCell', Nat.reduceAdd, Nat.reduceEqDiff, fillL, setL, Nat.reduceLeDiff, hn]
  refine hK _ _ ?_
  clear hK K
  refine w_blk (w_loop (fun n' f H' => f 0 = .pointer (some ⟨p, 0, none⟩) ∧ f 1 = .string key ∧ f 9 = .int .i64 n ∧ ∃ (i : Nat) (L : List Ac) (ok : Bool) (sti : St) (vi u : Value) (M' : Nat → Prop) (css : List (List Value)), f 10 = .int .i64 i ∧ i ≤ n ∧ n' = n - i ∧ f 4 = u ∧ f 5 = .bool ok ∧ KeepOn (fun x => x ≠ p) H H' ∧ Rr S H' p sti vi ∧ (∀ x, M' x → H.size ≤ x ∧ x < H'.size) ∧ Row M' H' 4 u css ∧ css.length = L.length ∧ (∀ j (hj : j < css.length) (hl : j < L.length), ElAc css[j] L[j]) ∧ L.length = i ∧ actsL key (n - i) L ok sti = actsL key n [] true (numR 6 st).2) n ⟨(by simp only [ev_tmp, ev_const, upd_apply, Nat.reduceBEq, cond_true, cond_false, ]), (by simp only [ev_tmp, ev_const, upd_apply, Nat.reduceBEq, cond_true, cond_false, ]), (by simp only [ev_tmp, ev_const, upd_apply, Nat.reduceBEq, cond_true, cond_false, ]), 0, [], true, _, v1, _, fun _ => False, [], (by simp only [ev_tmp, ev_const, upd_apply, Nat.reduceBEq, cond_true, cond_false, ]; rfl), Nat.zero_le _, rfl, (by simp only [ev_tmp, ev_const, upd_apply, Nat.reduceBEq, cond_true, cond_false, ]), (by simp only [ev_tmp, ev_const, upd_apply, Nat.reduceBEq, cond_true, cond_false, ]), hk1, hR1, fun _ h => h.elim, Row.nil, rfl, fun j hj => by simp at hj, rfl, rfl⟩ ?_)
  rintro n' f H' ⟨f0, f1, f9, i, L, ok, sti, vi, u, M', css, f10, hi, rfl, f4, f5, hkA, hR, hM', hrow, hcl, hel, hLi, hD⟩
  by_cases hil : i < n
  · refine w_reg fun K hK => ?_
    simp (disch := omega) only [↓wD, ↓i_cbs, ↓i_csk, wU, b_and, b_or, b_shl, b_shr, Nat.reduceBEq, reduceCtorEq, Int.reduceEq, Int.reduceLT, Int.reduceLE, Int.reduceNeg, Value.cells, Value.oneCell', Nat.reduceAdd, Nat.reduceEqDiff, fillL, setL, Nat.reduceLeDiff, f9, f10, hil]
    refine hK _ _ ?_
    clear hK K
    refine w_seq ?_
    refine w_true (by simp only [ev_tmp, ev_const, upd_apply, Nat.reduceBEq, cond_true, cond_false, Bool.not_true, Bool.not_false, ]) ?_
    refine w_skip ?_
    repeat (first | with_reducible refine q_n ?_ | with_reducible refine q_e ?_ | with_reducible refine q_r ?_ | with_reducible refine bq_n ?_ | with_reducible refine bq_e ?_ | with_reducible refine bq_r ?_ | with_reducible refine bq_o rfl ?_)
    refine w_seq (w_blk ?_)
    have hps := hkA.1
    have hp' := cell_lt hR.c0
    have hb1 := numR_bd 3 sti (by omega)
    have hu8 : IntKind.u8.wrap (numR 3 sti).1 = (numR 3 sti).1 := wr8 (by omega) (by omega)
    refine w_reg fun K hK => ?_
    simp (disch := omega) only [↓wD, ↓i_cbs, ↓i_csk, wU, b_and, b_or, b_shl, b_shr, Nat.reduceBEq, reduceCtorEq, Int.reduceEq, Int.reduceLT, Int.reduceLE, Int.reduceNeg, Value.cells, Value.oneCell', Nat.reduceAdd, Nat.reduceEqDiff, fillL, setL, Nat.reduceLeDiff, f0]
    refine w_call (Number_cl (most := 3) hR) ?_
    rintro _ G1 ⟨rfl, gk1, gv1, gR1⟩
    simp (disch := omega) only [↓wD, ↓i_cbs, ↓i_csk, wU, b_and, b_or, b_shl, b_shr, Nat.reduceBEq, reduceCtorEq, Int.reduceEq, Int.reduceLT, Int.reduceLE, Int.reduceNeg, Value.cells, Value.oneCell', Nat.reduceAdd, Nat.reduceEqDiff, fillL, setL, Nat.reduceLeDiff, f0, f1, hu8]
    refine w_call (Text_cl (most := 20) gR1) ?_
    rintro _ G2 ⟨rfl, gk2, gv2, gR2⟩
    have hsz := textR_sz 20 (numR 3 sti).2 (by omega) (by omega)
    simp (disch := omega) only [↓wD, ↓i_cbs, ↓i_csk, wU, b_and, b_or, b_shl, b_shr, Nat.reduceBEq, reduceCtorEq, Int.reduceEq, Int.reduceLT, Int.reduceLE, Int.reduceNeg, Value.cells, Value.oneCell', Nat.reduceAdd, Nat.reduceEqDiff, fillL, setL, Nat.reduceLeDiff, f1, hu8]
    refine hK _ _ ?_
    clear hK K
    have hE3 : Ext G2 (G2.push (.cells #[.int .u8 (numR 3 sti).1, .string key, .string (textR 20 (numR 3 sti).2).1, .int .i64 0] 98)) := (Ext.refl _).push _
    have ho3 := Own_new G2 [.int .u8 (numR 3 sti).1, .string key, .string (textR 20 (numR 3 sti).2).1, .int .i64 0] 98
    have hr3 := rdn_new G2 [.int .u8 (numR 3 sti).1, .string key, .string (textR 20 (numR 3 sti).2).1, .int .i64 0] 98 0 4 (Nat.le_refl _)
    have hb3 : G2.size < (G2.push (.cells #[.int .u8 (numR 3 sti).1, .string key, .string (textR 20 (numR 3 sti).2).1, .int .i64 0] 98)).size := by simp
    generalize G2.push (.cells #[.int .u8 (numR 3 sti).1, .string key, .string (textR 20 (numR 3 sti).2).1, .int .i64 0] 98) = G3 at hE3 ho3 hr3 hb3 ⊢
    have gs1 := gk1.1
    have gs2 := gk2.1
    refine w_reg fun K hK => ?_
    simp (disch := omega) only [↓wD, ↓i_cbs, ↓i_csk, wU, b_and, b_or, b_shl, b_shr, Nat.reduceBEq, reduceCtorEq, Int.reduceEq, Int.reduceLT, Int.reduceLE, Int.reduceNeg, Value.cells, Value.oneCell', Nat.reduceAdd, Nat.reduceEqDiff, fillL, setL, Nat.reduceLeDiff, f0]
    refine w_call (Flag_cl (gR2.ext hE3)) ?_
    rintro _ G4 ⟨rfl, gk4, gv4, gR4⟩
    simp (disch := omega) only [↓wD, ↓i_cbs, ↓i_csk, wU, b_and, b_or, b_shl, b_shr, Nat.reduceBEq, reduceCtorEq, Int.reduceEq, Int.reduceLT, Int.reduceLE, Int.reduceNeg, Value.cells, Value.oneCell', Nat.reduceAdd, Nat.reduceEqDiff, fillL, setL, Nat.reduceLeDiff, ]
    refine hK _ _ ?_
    clear hK K
    have gs3 := hE3.1
    have gs4 := gk4.1
    have hG2p : p < G2.size := by omega
    have hne6 : G2.size ≠ p := by omega
    obtain ⟨s3, hs3⟩ : ∃ s3, s3 = (flagR (textR 20 (numR 3 sti).2).2).2 := ⟨_, rfl⟩
    obtain ⟨bl, hbl⟩ : ∃ bl, bl = (flagR (textR 20 (numR 3 sti).2).2).1 := ⟨_, rfl⟩
    rw [← hs3] at gR4
    rw [← hbl]
    have hact : actR key sti = ((⟨(numR 3 sti).1, key, (textR 20 (numR 3 sti).2).1, if bl then -(numR 1073741824 s3).1 else (numR 1073741824 s3).1⟩, !bl || decide (0 < (numR 1073741824 s3).1)), (numR 1073741824 s3).2) := by rw [hs3, hbl]; rfl
    obtain ⟨hm0, hm1⟩ := numR_bd 1073741824 s3 (by omega)
    generalize hm : (numR 1073741824 s3).1 = m at hm0 hm1 hact
    have hneg : IntKind.i64.wrap (0 - m) = -m := by rw [wr64 (by omega) (by omega)]; omega
    -- what stands between this round's beginning and the last append
    refine w_cut (fun g HX => g 0 = .pointer (some ⟨p, 0, none⟩) ∧ g 1 = .string key ∧ g 9 = .int .i64 n ∧ g 10 = .int .i64 i ∧ g 4 = u ∧ g 6 = .pointer (some ⟨G2.size, 0, none⟩) ∧ g 5 = .bool (ok && (actR key sti).1.2) ∧ KeepOn (fun x => x ≠ p) H' HX ∧ (∃ vx, Rr S HX p (actR key sti).2 vx) ∧ rdn HX G2.size 0 4 = some [.int .u8 (actR key sti).1.1.kind, .string (actR key sti).1.1.key, .string (actR key sti).1.1.value, .int .i64 (actR key sti).1.1.num]) ?_ ?_
    · refine w_reg fun K hK => ?_
      simp (disch := omega) only [↓wD, ↓i_cbs, ↓i_csk, wU, b_and, b_or, b_shl, b_shr, Nat.reduceBEq, reduceCtorEq, Int.reduceEq, Int.reduceLT, Int.reduceLE, Int.reduceNeg, Value.cells, Value.oneCell', Nat.reduceAdd, Nat.reduceEqDiff, fillL, setL, Nat.reduceLeDiff, f0]
      refine w_call (Number_cl (most := 1073741824) gR4) ?_
      rintro _ G5 ⟨rfl, gk5, gv5, gR5⟩
      have gk35 := gk4.trans gk5
      have ho5 := Own_block (gk35.2 _ hb3 hne6) ho3
      have hr5 := rdn_block (gk35.2 _ hb3 hne6) hr3
      have hr5 : rdn G5 G2.size 0 4 = some [.int .u8 (numR 3 sti).1, .string key, .string (textR 20 (numR 3 sti).2).1, .int .i64 0] := hr5
      obtain ⟨x0, x1, x2, x3⟩ := rdn4 hr5
      simp only [Nat.zero_add] at x0 x1 x2 x3
      have hf3 : frz G5 G2.size 3 = false := by have := (ho5 3 (by simp)).2; simpa using this
      have hk5 : KeepOn (fun x => x ≠ p) H' G5 := ((gk1.trans gk2).trans (hE3.on _)).trans gk35
      rw [hm]
      simp (disch := omega) only [↓wD, ↓i_cbs, ↓i_csk, wU, b_and, b_or, b_shl, b_shr, Nat.reduceBEq, reduceCtorEq, Int.reduceEq, Int.reduceLT, Int.reduceLE, Int.reduceNeg, Value.cells, Value.oneCell', Nat.reduceAdd, Nat.reduceEqDiff, fillL, setL, Nat.reduceLeDiff, x3, hf3]
      refine hK _ _ ?_
      clear hK K
      have key1 : ∀ (HX : Hp) (z : Int), HX.size = G5.size → (∀ c, c ≠ G2.size → HX[c]? = G5[c]?) → (∀ j, j < 3 → cell HX G2.size j = cell G5 G2.size j) → cell HX G2.size 3 = some (.int .i64 z) → z = (actR key sti).1.1.num →
          KeepOn (fun x => x ≠ p) H' HX ∧ (∃ vx, Rr S HX p (actR key sti).2 vx) ∧ rdn HX G2.size 0 4 = some [.int .u8 (actR key sti).1.1.kind, .string (actR key sti).1.1.key, .string (actR key sti).1.1.value, .int .i64 (actR key sti).1.1.num] := by
        intro HX z hsize hoth hlow h3 hz
        have hSG : ∀ x, x < G5.size → S x ∨ x = p → HX[x]? = G5[x]? := by
          intro x hx hsx
          refine hoth x fun e => ?_
          subst e
          rcases hsx with h | h
          · have := hR.lt _ h; omega
          · omega
        refine ⟨⟨by have := hk5.1; omega, fun x hx hxp => by rw [hoth x (by omega), hk5.2 x hx hxp]⟩, ⟨gv5, ?_⟩, ?_⟩
        · have e : (actR key sti).2 = (numR 1073741824 s3).2 := by rw [hact]
          rw [e]; exact gR5.keep (by omega) hSG
        · rw [← hz, rd4, Nat.zero_add, Nat.zero_add, Nat.zero_add, hlow 0 (by omega), hlow 1 (by omega), hlow 2 (by omega), h3, x0, x1, x2, hact]
      have step1 : ∀ c, c ≠ G2.size → (putc G5 G2.size 3 (.int .i64 m))[c]? = G5[c]? := fun c hc => putc_ne hc
      have c31 : cell (putc G5 G2.size 3 (.int .i64 m)) G2.size 3 = some (.int .i64 m) := by rw [cell_putc, if_pos ⟨rfl, rfl⟩, x3]; rfl
      refine w_seq ?_
      refine w_reg fun K hK => ?_
      simp (disch := omega) only [↓wD, ↓i_cbs, ↓i_csk, wU, b_and, b_or, b_shl, b_shr, Nat.reduceBEq, reduceCtorEq, Int.reduceEq, Int.reduceLT, Int.reduceLE, Int.reduceNeg, Value.cells, Value.oneCell', Nat.reduceAdd, Nat.reduceEqDiff, fillL, setL, Nat.reduceLeDiff, ]
      refine hK _ _ ?_
      clear hK K
      cases bl with
      | false =>
        refine w_false (by simp only [ev_tmp, ev_const, upd_apply, Nat.reduceBEq, cond_true, cond_false, Bool.not_true, Bool.not_false, ]) ?_
        refine w_skip ?_
        repeat (first | with_reducible refine q_n ?_ | with_reducible refine q_e ?_ | with_reducible refine q_r ?_ | with_reducible refine bq_n ?_ | with_reducible refine bq_e ?_ | with_reducible refine bq_r ?_ | with_reducible refine bq_o rfl ?_)
        have ez : (actR key sti).1.2 = true := by rw [hact]; rfl
        obtain ⟨r1, r2, r3⟩ := key1 _ m (by rw [putc_size]) step1 (fun j hj => by rw [cell_putc, if_neg (by omega)]) c31 (by rw [hact]; rfl)
        rw [ez, Bool.and_true]
        exact ⟨(by simp only [ev_tmp, ev_const, upd_apply, Nat.reduceBEq, cond_true, cond_false, f0]), (by simp only [ev_tmp, ev_const, upd_apply, Nat.reduceBEq, cond_true, cond_false, f1]), (by simp only [ev_tmp, ev_const, upd_apply, Nat.reduceBEq, cond_true, cond_false, f9]), (by simp only [ev_tmp, ev_const, upd_apply, Nat.reduceBEq, cond_true, cond_false, f10]), (by simp only [ev_tmp, ev_const, upd_apply, Nat.reduceBEq, cond_true, cond_false, f4]), (by simp only [ev_tmp, ev_const, upd_apply, Nat.reduceBEq, cond_true, cond_false, ]), (by simp only [ev_tmp, ev_const, upd_apply, Nat.reduceBEq, cond_true, cond_false, f5]), r1, r2, r3⟩
      | true =>
        refine w_true (by simp only [ev_tmp, ev_const, upd_apply, Nat.reduceBEq, cond_true, cond_false, Bool.not_true, Bool.not_false, ]) ?_
        have ez : (actR key sti).1.2 = decide (0 < m) := by rw [hact]; rfl
        have f31 : frz (putc G5 G2.size 3 (.int .i64 m)) G2.size 3 = false := by rw [frz_putc]; exact hf3
        obtain ⟨r1, r2, r3⟩ := key1 (putc (putc G5 G2.size 3 (.int .i64 m)) G2.size 3 (.int .i64 (-m))) (-m) (by rw [putc_size, putc_size]) (fun c hc => (putc_ne hc).trans (step1 c hc)) (fun j hj => by rw [cell_putc, if_neg (by omega), cell_putc, if_neg (by omega)]) (by rw [cell_putc, if_pos ⟨rfl, rfl⟩, c31]; rfl) (by rw [hact]; rfl)
        cases ok with
        | true =>
          refine w_reg fun K hK => ?_
          simp (disch := omega) only [↓wD, ↓i_cbs, ↓i_csk, wU, b_and, b_or, b_shl, b_shr, Nat.reduceBEq, reduceCtorEq, Int.reduceEq, Int.reduceLT, Int.reduceLE, Int.reduceNeg, Value.cells, Value.oneCell', Nat.reduceAdd, Nat.reduceEqDiff, fillL, setL, Nat.reduceLeDiff, f5, c31]
          refine hK _ _ ?_
          clear hK K
          refine w_reg1 fun K hK => ?_
          simp (disch := omega) only [↓wD, ↓i_cbs, ↓i_csk, wU, b_and, b_or, b_shl, b_shr, Nat.reduceBEq, reduceCtorEq, Int.reduceEq, Int.reduceLT, Int.reduceLE, Int.reduceNeg, Value.cells, Value.oneCell', Nat.reduceAdd, Nat.reduceEqDiff, fillL, setL, Nat.reduceLeDiff, c31, f31, hneg]
          refine hK _ _ ?_
          clear hK K
          repeat (first | with_reducible refine q_n ?_ | with_reducible refine q_e ?_ | with_reducible refine q_r ?_ | with_reducible refine bq_n ?_ | with_reducible refine bq_e ?_ | with_reducible refine bq_r ?_ | with_reducible refine bq_o rfl ?_)
          rw [ez, Bool.true_and]
          exact ⟨(by simp only [ev_tmp, ev_const, upd_apply, Nat.reduceBEq, cond_true, cond_false, f0]), (by simp only [ev_tmp, ev_const, upd_apply, Nat.reduceBEq, cond_true, cond_false, f1]), (by simp only [ev_tmp, ev_const, upd_apply, Nat.reduceBEq, cond_true, cond_false, f9]), (by simp only [ev_tmp, ev_const, upd_apply, Nat.reduceBEq, cond_true, cond_false, f10]), (by simp only [ev_tmp, ev_const, upd_apply, Nat.reduceBEq, cond_true, cond_false, f4]), (by simp only [ev_tmp, ev_const, upd_apply, Nat.reduceBEq, cond_true, cond_false, ]), (by simp only [ev_tmp, ev_const, upd_apply, Nat.reduceBEq, cond_true, cond_false, ]), r1, r2, r3⟩
        | false =>
          refine w_reg fun K hK => ?_
          simp (disch := omega) only [↓wD, ↓i_cbs, ↓i_csk, wU, b_and, b_or, b_shl, b_shr, Nat.reduceBEq, reduceCtorEq, Int.reduceEq, Int.reduceLT, Int.reduceLE, Int.reduceNeg, Value.cells, Value.oneCell', Nat.reduceAdd, Nat.reduceEqDiff, fillL, setL, Nat.reduceLeDiff, f5, c31]
          refine hK _ _ ?_
          clear hK K
          refine w_reg1 fun K hK => ?_
          simp (disch := omega) only [↓wD, ↓i_cbs, ↓i_csk, wU, b_and, b_or, b_shl, b_shr, Nat.reduceBEq, reduceCtorEq, Int.reduceEq, Int.reduceLT, Int.reduceLE, Int.reduceNeg, Value.cells, Value.oneCell', Nat.reduceAdd, Nat.reduceEqDiff, fillL, setL, Nat.reduceLeDiff, c31, f31, hneg]
          refine hK _ _ ?_
          clear hK K
          repeat (first | with_reducible refine q_n ?_ | with_reducible refine q_e ?_ | with_reducible refine q_r ?_ | with_reducible refine bq_n ?_ | with_reducible refine bq_e ?_ | with_reducible refine bq_r ?_ | with_reducible refine bq_o rfl ?_)
          rw [Bool.false_and]
          exact ⟨(by simp only [ev_tmp, ev_const, upd_apply, Nat.reduceBEq, cond_true, cond_false, f0]), (by simp only [ev_tmp, ev_const, upd_apply, Nat.reduceBEq, cond_true, cond_false, f1]), (by simp only [ev_tmp, ev_const, upd_apply, Nat.reduceBEq, cond_true, cond_false, f9]), (by simp only [ev_tmp, ev_const, upd_apply, Nat.reduceBEq, cond_true, cond_false, f10]), (by simp only [ev_tmp, ev_const, upd_apply, Nat.reduceBEq, cond_true, cond_false, f4]), (by simp only [ev_tmp, ev_const, upd_apply, Nat.reduceBEq, cond_true, cond_false, ]), (by simp only [ev_tmp, ev_const, upd_apply, Nat.reduceBEq, cond_true, cond_false, ]), r1, r2, r3⟩
    · rintro g HX ⟨g0, g1, g9, g10, g4, g6, g5, hkX, ⟨vx, hRX⟩, hrX⟩
      obtain ⟨ua, uc, eu⟩ := hrow.form
      have hsX := hkX.1
      have hM'p : ∀ x, M' x → x ≠ p := fun x hx => by have := (hM' x hx).1; omega
      have hrowX := hrow.mono (M' := M') (H' := HX) (fun _ h => h) hsX fun x hx hx' => hkX.2 x hx' (hM'p x hx)
      obtain ⟨x0, x1, x2, x3⟩ := rdn4 hrX
      simp only [Nat.zero_add] at x0 x1 x2 x3
      have hcl1 : ([.int .u8 (actR key sti).1.1.kind, .string (actR key sti).1.1.key, .string (actR key sti).1.1.value, .int .i64 (actR key sti).1.1.num] : List Value).length = 4 ∧ One [.int .u8 (actR key sti).1.1.kind, .string (actR key sti).1.1.key, .string (actR key sti).1.1.value, .int .i64 (actR key sti).1.1.num] := by
        refine ⟨rfl, fun v hv => ?_⟩
        simp at hv
        rcases hv with rfl | rfl | rfl | rfl <;> rfl
      have hE6 := (Ext.refl HX).push (.cells #[.int .u8 (actR key sti).1.1.kind, .string (actR key sti).1.1.key, .string (actR key sti).1.1.value, .int .i64 (actR key sti).1.1.num] 98)
      have hrow6 := hrowX.mono (M' := M') (fun _ h => h) hE6.1 fun x hx hx' => hE6.2 x hx'
      refine w_reg1 fun K hK => ?_
      subst eu
      simp (disch := omega) only [↓wD, ↓i_cbs, ↓i_csk, wU, b_and, b_or, b_shl, b_shr, Nat.reduceBEq, reduceCtorEq, Int.reduceEq, Int.reduceLT, Int.reduceLE, Int.reduceNeg, Value.cells, Value.oneCell', Nat.reduceAdd, Nat.reduceEqDiff, fillL, setL, Nat.reduceLeDiff, g4, g6, x0, x1, x2, x3, as_one]
      refine app_one hrow6 (fun x hx => by have := (hM' x hx).2; simp; omega) hcl1 rfl (by decide) (by omega) ?_ rfl
      intro v7 H7 hrow7 hk7 hs7
      simp only [↓wD, ↓i_cbs, ↓i_csk, wU, b_and, b_or, b_shl, b_shr, Nat.reduceBEq, reduceCtorEq, Int.reduceEq, Int.reduceLT, Int.reduceLE, Int.reduceNeg, Value.cells, Value.oneCell', Nat.reduceAdd, Nat.reduceEqDiff, fillL, setL, Nat.reduceLeDiff]
      refine hK _ _ ?_
      repeat (first | with_reducible refine q_n ?_ | with_reducible refine q_e ?_ | with_reducible refine q_r ?_ | with_reducible refine bq_n ?_ | with_reducible refine bq_e ?_ | with_reducible refine bq_r ?_ | with_reducible refine bq_o rfl ?_)
      refine w_reg1 fun K hK => ?_
      simp (disch := omega) only [↓wD, ↓i_cbs, ↓i_csk, wU, b_and, b_or, b_shl, b_shr, Nat.reduceBEq, reduceCtorEq, Int.reduceEq, Int.reduceLT, Int.reduceLE, Int.reduceNeg, Value.cells, Value.oneCell', Nat.reduceAdd, Nat.reduceEqDiff, fillL, setL, Nat.reduceLeDiff, g10]
      refine hK _ _ ?_
      clear hK K
      repeat (first | with_reducible refine q_n ?_ | with_reducible refine q_e ?_ | with_reducible refine q_r ?_ | with_reducible refine bq_n ?_ | with_reducible refine bq_e ?_ | with_reducible refine bq_r ?_ | with_reducible refine bq_o rfl ?_)
      have hs7' := hk7.1
      have hs6' : (HX.push (.cells #[.int .u8 (actR key sti).1.1.kind, .string (actR key sti).1.1.key, .string (actR key sti).1.1.value, .int .i64 (actR key sti).1.1.num] 98)).size = HX.size + 1 := by simp
      have keep7 : ∀ x, x < HX.size → ¬ M' x → H7[x]? = HX[x]? := fun x hx hm => by rw [hk7.2 x (by omega) hm, hE6.2 x hx]
      have hEl : ElAc [.int .u8 (actR key sti).1.1.kind, .string (actR key sti).1.1.key, .string (actR key sti).1.1.value, .int .i64 (actR key sti).1.1.num] (actR key sti).1.1 := by
        refine ⟨rfl, ?_, ?_, ?_, ?_⟩
        · exact ⟨hb1.1, Int.le_trans hb1.2 (by omega)⟩
        · rw [hact]; simp only
          cases bl
          · exact ⟨by simp; omega, by simp; omega⟩
          · exact ⟨by simp; omega, by simp; omega⟩
        · exact hk
        · exact hsz.1
      refine ⟨n - (i + 1), by omega, (by simp only [ev_tmp, ev_const, upd_apply, Nat.reduceBEq, cond_true, cond_false, g0]), (by simp only [ev_tmp, ev_const, upd_apply, Nat.reduceBEq, cond_true, cond_false, g1]), (by simp only [ev_tmp, ev_const, upd_apply, Nat.reduceBEq, cond_true, cond_false, g9]), i + 1, L ++ [(actR key sti).1.1], (ok && (actR key sti).1.2), (actR key sti).2, vx, v7, _, css ++ [[.int .u8 (actR key sti).1.1.kind, .string (actR key sti).1.1.key, .string (actR key sti).1.1.value, .int .i64 (actR key sti).1.1.num]], (by simp only [ev_tmp, ev_const, upd_apply, Nat.reduceBEq, cond_true, cond_false, ]), by omega, rfl, (by simp only [ev_tmp, ev_const, upd_apply, Nat.reduceBEq, cond_true, cond_false, ]), (by simp only [ev_tmp, ev_const, upd_apply, Nat.reduceBEq, cond_true, cond_false, g5]), ?_, ?_, ?_, hrow7.lt, by simp [hcl], ?_, by simp [hLi], ?_⟩
      · exact ⟨by omega, fun x hx hxp => by rw [keep7 x (by omega) (fun hm => by have := (hM' x hm).1; omega), hkX.2 x (by omega) hxp, hkA.2 x hx hxp]⟩
      · refine hRX.keep (by omega) fun x hx hsx => keep7 x hx fun hm => ?_
        have h1 := (hM' x hm).1
        rcases hsx with h2 | h2
        · have := h.lt x h2; omega
        · omega
      · rintro x ⟨hx | hx, hx2⟩
        · exact ⟨(hM' x hx).1, hx2⟩
        · exact ⟨by omega, hx2⟩
      · intro j hj hl
        by_cases hjl : j < css.length
        · rw [List.getElem_append_left hjl, List.getElem_append_left (by omega)]
          exact hel j hjl (by omega)
        · simp only [List.length_append, List.length_cons, List.length_nil] at hj hl
          rw [List.getElem_append_right (by omega), List.getElem_append_right (by omega)]
          have e1 : j - css.length = 0 := by omega
          have e2 : j - L.length = 0 := by omega
          simp only [e1, e2, List.getElem_cons_zero]
          exact hEl
      · rw [← hD]
        have : n - i = (n - (i + 1)) + 1 := by omega
        rw [this, actsL]
  · refine w_reg fun K hK => ?_
    simp (disch := omega) only [↓wD, ↓i_cbs, ↓i_csk, wU, b_and, b_or, b_shl, b_shr, Nat.reduceBEq, reduceCtorEq, Int.reduceEq, Int.reduceLT, Int.reduceLE, Int.reduceNeg, Value.cells, Value.oneCell', Nat.reduceAdd, Nat.reduceEqDiff, fillL, setL, Nat.reduceLeDiff, f9, f10, hil]
    refine hK _ _ ?_
    clear hK K
    refine w_seq ?_
    refine w_false (by simp only [ev_tmp, ev_const, upd_apply, Nat.reduceBEq, cond_true, cond_false, Bool.not_true, Bool.not_false, ]) ?_
    refine w_exit ?_
    repeat (first | with_reducible refine q_n ?_ | with_reducible refine q_e ?_ | with_reducible refine q_r ?_ | with_reducible refine bq_n ?_ | with_reducible refine bq_e ?_ | with_reducible refine bq_r ?_ | with_reducible refine bq_o rfl ?_)
    have e : n - i = 0 := by omega
    rw [e, actsL] at hD
    obtain ⟨ua, uc, rfl⟩ := hrow.form
    refine w_reg fun K hK => ?_
    simp (disch := omega) only [↓wD, ↓i_cbs, ↓i_csk, wU, b_and, b_or, b_shl, b_shr, Nat.reduceBEq, reduceCtorEq, Int.reduceEq, Int.reduceLT, Int.reduceLE, Int.reduceNeg, Value.cells, Value.oneCell', Nat.reduceAdd, Nat.reduceEqDiff, fillL, setL, Nat.reduceLeDiff, f4, f5]
    refine hK _ _ ?_
    clear hK K
    refine w_ret ?_
    repeat (first | with_reducible refine q_n ?_ | with_reducible refine q_e ?_ | with_reducible refine q_r ?_ | with_reducible refine bq_n ?_ | with_reducible refine bq_e ?_ | with_reducible refine bq_r ?_ | with_reducible refine bq_o rfl ?_)
    refine ret2 (by (try simp only [ev_tmp, ev_const, upd_apply, Nat.reduceBEq, cond_true, cond_false]); rfl) (by (try simp only [ev_tmp, ev_const, upd_apply, Nat.reduceBEq, cond_true, cond_false]); rfl) ?_
    rw [eR, ← hD]
    exact ⟨⟨hkA, vi, hR⟩, _, M', rfl, hM', hrow.slp hcl (by rw [hLi]; unfold big; omega) hel⟩
end Go.WK
/-
  One hold out of bytes.
-/
namespace Go.WK
open Go Go.Proofs

def readR (key : ByteArray) (st : St) : Rd × St := (⟨key, (flagR st).1, (textR 20 (flagR st).2).1⟩, (textR 20 (flagR st).2).2)
def readsL (key : ByteArray) : Nat → List Rd → St → List Rd × St
  | 0, l, st => (l, st)
  | n + 1, l, st => readsL key n (l ++ [(readR key st).1]) (readR key st).2
def readsR (key : ByteArray) (st : St) : List Rd × St := readsL key (numR 6 st).1.toNat [] (numR 6 st).2
def hdR (st : St) : (Hd × Bool) × St :=
  let k := textR 20 st
  let c := numR 8 k.2
  let n := numR 1073741824 c.2
  let a := actsR k.1 n.2
  let r := readsR k.1 a.2
  let b := flagR r.2
  let v := textR 20 b.2
  ((⟨k.1, ⟨c.1, n.1⟩, a.1.1, r.1, b.1, v.1⟩, a.1.2 && rightB ⟨k.1, ⟨c.1, n.1⟩, a.1.1, r.1, b.1, v.1⟩), v.2)
/-- A block of one's own that is written, cell by cell. -/
structure Bk (H : Hp) (b : Nat) (cs : List Value) : Prop where
  rd : rdn H b 0 cs.length = some cs
  fz : ∀ i, frz H b i = false
theorem Bk.keep {H H' : Hp} {b : Nat} {cs : List Value} (h : Bk H b cs) (e : H'[b]? = H[b]?) : Bk H' b cs := ⟨rdn_block e h.rd, fun i => (frz_block e i).trans (h.fz i)⟩
theorem Bk.cell {H : Hp} {b : Nat} {cs : List Value} (h : Bk H b cs) (j : Nat) (hj : j < cs.length) : cell H b j = some cs[j] := by
  have := (rdn_spec h.rd).2 j hj
  rw [Nat.zero_add] at this
  rw [this, List.getElem?_eq_getElem hj]
theorem Bk.put {H : Hp} {b : Nat} {cs : List Value} (h : Bk H b cs) (j : Nat) (v : Value) (hj : j < cs.length) : Bk (putc H b j v) b (cs.set j v) := by
  refine ⟨rdn_of (by simp) fun i hi => ?_, fun i => by rw [frz_putc]; exact h.fz i⟩
  simp only [List.length_set] at hi
  rw [Nat.zero_add, cell_putc]
  by_cases e : i = j
  · subst e
    rw [if_pos ⟨rfl, rfl⟩, h.cell i hj, List.getElem?_set_self hj]; rfl
  · rw [if_neg (fun h => e h.2), h.cell i hi, List.getElem?_set_ne (fun h => e h.symm), List.getElem?_eq_getElem hi]
theorem Bk.new (H : Hp) (cs : List Value) (t : Nat) : Bk (H.push (.cells cs.toArray t)) H.size cs :=
  ⟨by rw [rdn_new H cs t 0 cs.length (by omega)]; simp, fun i => frz_new H cs t i⟩
theorem putc_keep (H : Hp) (b j : Nat) (v : Value) : KeepOn (fun x => x ≠ b) H (putc H b j v) := ⟨by rw [putc_size]; exact Nat.le_refl _, fun x _ hx => putc_ne hx⟩
theorem Rr.putc {S : Nat → Prop} {H : Hp} {p : Nat} {st : St} {v : Value} (h : Rr S H p st v) (b j : Nat) (u : Value) (hb : ¬ S b ∧ b ≠ p) : Rr S (Go.WK.putc H b j u) p st v :=
  h.keep (by rw [putc_size]; exact Nat.le_refl _) fun x _ hx => putc_ne fun e => by subst e; exact hx.elim hb.1 hb.2
theorem Bk.at {H : Hp} {b t : Nat} {cs : List Value} (h : H[b]? = some (.cells cs.toArray t)) : Bk H b cs := by
  refine ⟨rdn_of rfl fun j hj => ?_, fun i => ?_⟩
  · simp only [Go.WK.cell, h, Nat.zero_add, List.getElem?_toArray]
  · simp only [frz, h]; simp
theorem Bk.own {H : Hp} {b : Nat} {cs : List Value} (h : Bk H b cs) : Own H b 0 cs.length := fun j hj => by
  rw [Nat.zero_add, h.cell j hj]
  exact ⟨rfl, h.fz j⟩
theorem Bk.lt {H : Hp} {b : Nat} {cs : List Value} (h : Bk H b cs) (hc : 0 < cs.length) : b < H.size := cell_lt (h.cell 0 hc)
set_option maxHeartbeats 4000000 in
theorem hold_cl {S : Nat → Prop} {H : Hp} {p : Nat} {st : St} {v : Value} (h : Rr S H p st v) :
    Cl Tryz.prog 75 [.pointer (some ⟨p, 0, none⟩)] H fun r H' => RrP S H p (hdR st).2 H' ∧ ∃ (cs : List Value) (G : Nat → Prop), r = .tuple #[.agg cs.toArray, .bool (hdR st).1.2] ∧ (∀ x, G x → H.size ≤ x ∧ x < H'.size) ∧ ElHd G H' cs (hdR st).1.1 := by
  refine cl_of mixed c_holds_hold (Nat.le_of_ble_eq_true rfl) ?_
  simp only [fwp, ir_holds_hold, argF, Nat.reduceAdd]
  have hp := cell_lt h.c0
  obtain ⟨k, hk⟩ : ∃ k, k = textR 20 st := ⟨_, rfl⟩
  obtain ⟨c, hc⟩ : ∃ c, c = numR 8 k.2 := ⟨_, rfl⟩
  obtain ⟨n, hn⟩ : ∃ n, n = numR 1073741824 c.2 := ⟨_, rfl⟩
  obtain ⟨a, ha⟩ : ∃ a, a = actsR k.1 n.2 := ⟨_, rfl⟩
  obtain ⟨r, hr⟩ : ∃ r, r = readsR k.1 a.2 := ⟨_, rfl⟩
  obtain ⟨b, hb⟩ : ∃ b, b = flagR r.2 := ⟨_, rfl⟩
  obtain ⟨w, hw⟩ : ∃ w, w = textR 20 b.2 := ⟨_, rfl⟩
  have eR : hdR st = ((⟨k.1, ⟨c.1, n.1⟩, a.1.1, r.1, b.1, w.1⟩, a.1.2 && rightB ⟨k.1, ⟨c.1, n.1⟩, a.1.1, r.1, b.1, w.1⟩), w.2) := by
    subst hw hb hr ha hn hc hk; rfl
  rw [eR]
  clear eR
  have hkz := textR_sz 20 st (by omega) (by omega)
  rw [← hk] at hkz
  have hcb := numR_bd 8 k.2 (by omega)
  rw [← hc] at hcb
  have hnb := numR_bd 1073741824 c.2 (by omega)
  rw [← hn] at hnb
  refine w_reg fun K hK => ?_
  simp (disch := omega) only [↓wD, ↓i_cbs, ↓i_csk, wU, b_and, b_or, b_shl, b_shr, Nat.reduceBEq, reduceCtorEq, Int.reduceEq, Int.reduceLT, Int.reduceLE, Int.reduceNeg, Value.cells, Value.oneCell', Nat.reduceAdd, Nat.reduceEqDiff, fillL, setL, Nat.reduceLeDiff, ]
  refine hK _ _ ?_
  clear hK K
  have hE0 : Ext H (H.push (.cells #[.string .empty, .int .i64 0, .int .i64 0, .slice none 0 0, .slice none 0 0, .bool false, .string .empty] 35)) := (Ext.refl _).push _
  have hB0 := Bk.new H [.string .empty, .int .i64 0, .int .i64 0, .slice none 0 0, .slice none 0 0, .bool false, .string .empty] 35
  have hs0 : (H.push (.cells #[.string .empty, .int .i64 0, .int .i64 0, .slice none 0 0, .slice none 0 0, .bool false, .string .empty] 35)).size = H.size + 1 := by simp
  generalize H.push (.cells #[.string .empty, .int .i64 0, .int .i64 0, .slice none 0 0, .slice none 0 0, .bool false, .string .empty] 35) = H0 at hE0 hB0 hs0 ⊢
  obtain ⟨B, hBe⟩ : ∃ B, B = H.size := ⟨_, rfl⟩
  rw [← hBe] at hB0 ⊢
  have hBp : B ≠ p := by omega
  have hBS : ¬ S B ∧ B ≠ p := ⟨fun hs => by have := h.lt _ hs; omega, hBp⟩
  -- the key
  refine w_reg fun K hK => ?_
  simp (disch := omega) only [↓wD, ↓i_cbs, ↓i_csk, wU, b_and, b_or, b_shl, b_shr, Nat.reduceBEq, reduceCtorEq, Int.reduceEq, Int.reduceLT, Int.reduceLE, Int.reduceNeg, Value.cells, Value.oneCell', Nat.reduceAdd, Nat.reduceEqDiff, fillL, setL, Nat.reduceLeDiff, ]
  refine w_call (Text_cl (most := 20) (h.ext hE0)) ?_
  rintro _ H1 ⟨rfl, hk1, v1, hR1⟩
  rw [← hk] at hR1 ⊢
  have hB1 := hB0.keep (hk1.2 B (by omega) hBp)
  simp (disch := omega) only [↓wD, ↓i_cbs, ↓i_csk, wU, b_and, b_or, b_shl, b_shr, Nat.reduceBEq, reduceCtorEq, Int.reduceEq, Int.reduceLT, Int.reduceLE, Int.reduceNeg, Value.cells, Value.oneCell', Nat.reduceAdd, Nat.reduceEqDiff, fillL, setL, Nat.reduceLeDiff, hB1.cell 0 (by simp), hB1.fz]
  refine hK _ _ ?_
  clear hK K
  have hB1' := hB1.put 0 (.string k.1) (by simp)
  have hR1' := hR1.putc B 0 (.string k.1) hBS
  have hk1' : KeepOn (fun x => x ≠ p ∧ x ≠ B) H0 (putc H1 B 0 (.string k.1)) := ⟨Nat.le_trans hk1.1 (putc_keep H1 B 0 _).1, fun x hx hxp => by rw [(putc_keep H1 B 0 _).2 x (Nat.lt_of_lt_of_le hx hk1.1) hxp.2, hk1.2 x hx hxp.1]⟩
  generalize putc H1 B 0 (.string k.1) = G1 at hB1' hR1' hk1' ⊢
  simp only [List.set_cons_zero] at hB1'
  clear hk1 hB1 hR1
  -- the name
  refine w_reg fun K hK => ?_
  simp (disch := omega) only [↓wD, ↓i_cbs, ↓i_csk, wU, b_and, b_or, b_shl, b_shr, Nat.reduceBEq, reduceCtorEq, Int.reduceEq, Int.reduceLT, Int.reduceLE, Int.reduceNeg, Value.cells, Value.oneCell', Nat.reduceAdd, Nat.reduceEqDiff, fillL, setL, Nat.reduceLeDiff, ]
  refine w_call (Number_cl (most := 8) hR1') ?_
  rintro _ H2 ⟨rfl, hk2, v2, hR2⟩
  rw [← hc] at hR2 ⊢
  have hs1 := hk1'.1
  have hB2 := hB1'.keep (hk2.2 B (by omega) hBp)
  simp (disch := omega) only [↓wD, ↓i_cbs, ↓i_csk, wU, b_and, b_or, b_shl, b_shr, Nat.reduceBEq, reduceCtorEq, Int.reduceEq, Int.reduceLT, Int.reduceLE, Int.reduceNeg, Value.cells, Value.oneCell', Nat.reduceAdd, Nat.reduceEqDiff, fillL, setL, Nat.reduceLeDiff, hB2.cell 1 (by simp), hB2.fz]
  refine hK _ _ ?_
  clear hK K
  have hB2' := hB2.put 1 (.int .i64 c.1) (by simp)
  have hR2' := hR2.putc B 1 (.int .i64 c.1) hBS
  have hk2' : KeepOn (fun x => x ≠ p ∧ x ≠ B) H0 (putc H2 B 1 (.int .i64 c.1)) := ⟨by rw [putc_size]; exact Nat.le_trans hk1'.1 hk2.1, fun x hx hxp => by rw [(putc_keep H2 B 1 _).2 x (Nat.lt_of_lt_of_le hx (Nat.le_trans hk1'.1 hk2.1)) hxp.2, hk2.2 x (Nat.lt_of_lt_of_le hx hk1'.1) hxp.1, hk1'.2 x hx hxp]⟩
  generalize putc H2 B 1 (.int .i64 c.1) = G2 at hB2' hR2' hk2' ⊢
  simp only [List.set_cons_succ, List.set_cons_zero] at hB2'
  clear hk2 hB2 hR2 hB1' hR1' hk1' hs1
  refine w_reg fun K hK => ?_
  simp (disch := omega) only [↓wD, ↓i_cbs, ↓i_csk, wU, b_and, b_or, b_shl, b_shr, Nat.reduceBEq, reduceCtorEq, Int.reduceEq, Int.reduceLT, Int.reduceLE, Int.reduceNeg, Value.cells, Value.oneCell', Nat.reduceAdd, Nat.reduceEqDiff, fillL, setL, Nat.reduceLeDiff, ]
  refine w_call (Number_cl (most := 1073741824) hR2') ?_
  rintro _ H3 ⟨rfl, hk3, v3, hR3⟩
  rw [← hn] at hR3 ⊢
  have hs2 := hk2'.1
  have hB3 := hB2'.keep (hk3.2 B (by omega) hBp)
  simp (disch := omega) only [↓wD, ↓i_cbs, ↓i_csk, wU, b_and, b_or, b_shl, b_shr, Nat.reduceBEq, reduceCtorEq, Int.reduceEq, Int.reduceLT, Int.reduceLE, Int.reduceNeg, Value.cells, Value.oneCell', Nat.reduceAdd, Nat.reduceEqDiff, fillL, setL, Nat.reduceLeDiff, hB3.cell 2 (by simp), hB3.fz]
  refine hK _ _ ?_
  clear hK K
  have hB3' := hB3.put 2 (.int .i64 n.1) (by simp)
  have hR3' := hR3.putc B 2 (.int .i64 n.1) hBS
  have hk3' : KeepOn (fun x => x ≠ p ∧ x ≠ B) H0 (putc H3 B 2 (.int .i64 n.1)) := ⟨by rw [putc_size]; exact Nat.le_trans hk2'.1 hk3.1, fun x hx hxp => by rw [(putc_keep H3 B 2 _).2 x (Nat.lt_of_lt_of_le hx (Nat.le_trans hk2'.1 hk3.1)) hxp.2, hk3.2 x (Nat.lt_of_lt_of_le hx hk2'.1) hxp.1, hk2'.2 x hx hxp]⟩
  generalize putc H3 B 2 (.int .i64 n.1) = G3 at hB3' hR3' hk3' ⊢
  simp only [List.set_cons_succ, List.set_cons_zero] at hB3'
  clear hk3 hB3 hR3 hB2' hR2' hk2' hs2
  -- the acts
  refine w_reg fun K hK => ?_
  simp (disch := omega) only [↓wD, ↓i_cbs, ↓i_csk, wU, b_and, b_or, b_shl, b_shr, Nat.reduceBEq, reduceCtorEq, Int.reduceEq, Int.reduceLT, Int.reduceLE, Int.reduceNeg, Value.cells, Value.oneCell', Nat.reduceAdd, Nat.reduceEqDiff, fillL, setL, Nat.reduceLeDiff, hB3'.cell 0 (by simp), List.getElem_cons_zero]
  refine w_call (acts_cl hR3' hkz.1) ?_
  rintro _ H4 ⟨⟨hk4, v4, hR4⟩, ua, Ma, rfl, hMa, haa⟩
  rw [← ha] at hR4 haa ⊢
  have hs3 := hk3'.1
  have hB4 := hB3'.keep (hk4.2 B (by omega) hBp)
  obtain ⟨aa, aac, rfl, haac, -⟩ := haa.form
  simp (disch := omega) only [↓wD, ↓i_cbs, ↓i_csk, wU, b_and, b_or, b_shl, b_shr, Nat.reduceBEq, reduceCtorEq, Int.reduceEq, Int.reduceLT, Int.reduceLE, Int.reduceNeg, Value.cells, Value.oneCell', Nat.reduceAdd, Nat.reduceEqDiff, fillL, setL, Nat.reduceLeDiff, hB4.cell 3 (by simp), hB4.fz]
  refine hK _ _ ?_
  clear hK K
  have hB4' := hB4.put 3 (.slice aa a.1.1.length aac) (by simp)
  have hR4' := hR4.putc B 3 (.slice aa a.1.1.length aac) hBS
  have hk4' : KeepOn (fun x => x ≠ p ∧ x ≠ B) H0 (putc H4 B 3 (.slice aa a.1.1.length aac)) := ⟨by rw [putc_size]; exact Nat.le_trans hk3'.1 hk4.1, fun x hx hxp => by rw [(putc_keep H4 B 3 _).2 x (Nat.lt_of_lt_of_le hx (Nat.le_trans hk3'.1 hk4.1)) hxp.2, hk4.2 x (Nat.lt_of_lt_of_le hx hk3'.1) hxp.1, hk3'.2 x hx hxp]⟩
  have hMa' : ∀ x, Ma x → H0.size ≤ x ∧ x < (putc H4 B 3 (.slice aa a.1.1.length aac)).size := fun x hx => ⟨Nat.le_trans hs3 (hMa x hx).1, by rw [putc_size]; exact (hMa x hx).2⟩
  have haa' : AcSl Ma (putc H4 B 3 (.slice aa a.1.1.length aac)) (.slice aa a.1.1.length aac) a.1.1 := haa.mono (fun _ h => h) (fun x hx _ => putc_ne fun e => by have := (hMa x hx).1; omega) fun _ _ _ h => h
  generalize putc H4 B 3 (.slice aa a.1.1.length aac) = G4 at hB4' hR4' hk4' hMa' haa' ⊢
  simp only [List.set_cons_succ, List.set_cons_zero] at hB4'
  clear hk4 hB4 hR4 hB3' hR3' hk3' hs3 haa hMa
  -- the reads
  refine w_seq (w_seq ?_)
  refine w_reg fun K hK => ?_
  simp (disch := omega) only [↓wD, ↓i_cbs, ↓i_csk, wU, b_and, b_or, b_shl, b_shr, Nat.reduceBEq, reduceCtorEq, Int.reduceEq, Int.reduceLT, Int.reduceLE, Int.reduceNeg, Value.cells, Value.oneCell', Nat.reduceAdd, Nat.reduceEqDiff, fillL, setL, Nat.reduceLeDiff, ]
  refine w_call (Number_cl (most := 6) hR4') ?_
  rintro _ H5 ⟨rfl, hk5, v5, hR5⟩
  obtain ⟨hr0, hr6⟩ := numR_bd 6 a.2 (by omega)
  obtain ⟨rn, hrn⟩ : ∃ rn : Nat, (numR 6 a.2).1 = rn := ⟨(numR 6 a.2).1.toNat, by omega⟩
  have eR : r = readsL k.1 rn [] (numR 6 a.2).2 := by rw [hr]; unfold readsR; rw [hrn, Int.toNat_natCast]
  rw [hrn] at hr6
  have hs4 := hk4'.1
  have hB5 := hB4'.keep (hk5.2 B (by omega) hBp)
  have hk5' : KeepOn (fun x => x ≠ p ∧ x ≠ B) H0 H5 := ⟨Nat.le_trans hk4'.1 hk5.1, fun x hx hxp => by rw [hk5.2 x (Nat.lt_of_lt_of_le hx hk4'.1) hxp.1, hk4'.2 x hx hxp]⟩
  have haa5 : AcSl Ma H5 (.slice aa a.1.1.length aac) a.1.1 := haa'.mono (fun _ h => h) (fun x hx hx' => hk5.2 x hx' fun e => by have := (hMa' x hx).1; omega) fun _ _ _ h => h
  simp (disch := omega) only [↓wD, ↓i_cbs, ↓i_csk, wU, b_and, b_or, b_shl, b_shr, Nat.reduceBEq, reduceCtorEq, Int.reduceEq, Int.reduceLT, Int.reduceLE, Int.reduceNeg, Value.cells, Value.oneCell', Nat.reduceAdd, Nat.reduceEqDiff, fillL, setL, Nat.reduceLeDiff, hrn]
  refine hK _ _ ?_
  clear hK K
  have hs5 := hk5'.1
  have hMa5 : ∀ x, Ma x → H0.size ≤ x ∧ x < H5.size := fun x hx => ⟨(hMa' x hx).1, Nat.lt_of_lt_of_le (hMa' x hx).2 hk5.1⟩
  clear hk4' hB4' hR4' haa' hk5 hMa'
  refine w_blk (w_loop (fun n' f H' => f 0 = .pointer (some ⟨p, 0, none⟩) ∧ f 2 = .pointer (some ⟨B, 0, none⟩) ∧ f 3 = .bool a.1.2 ∧ f 25 = .int .i64 rn ∧ ∃ (i : Nat) (L : List Rd) (sti : St) (vi u : Value) (M' : Nat → Prop) (css : List (List Value)), f 26 = .int .i64 i ∧ i ≤ rn ∧ n' = rn - i ∧ KeepOn (fun x => x ≠ p ∧ x ≠ B) H0 H' ∧ Bk H' B [.string k.1, .int .i64 c.1, .int .i64 n.1, .slice aa a.1.1.length aac, u, .bool false, .string .empty] ∧ Rr S H' p sti vi ∧ (∀ x, M' x → H5.size ≤ x ∧ x < H'.size) ∧ Row M' H' 3 u css ∧ css.length = L.length ∧ (∀ j (hj : j < css.length) (hl : j < L.length), ElRd css[j] L[j]) ∧ L.length = i ∧ readsL k.1 (rn - i) L sti = r ∧ AcSl Ma H' (.slice aa a.1.1.length aac) a.1.1 ∧ H5.size ≤ H'.size) rn ⟨(by simp only [ev_tmp, ev_const, upd_apply, Nat.reduceBEq, cond_true, cond_false, ]), (by simp only [ev_tmp, ev_const, upd_apply, Nat.reduceBEq, cond_true, cond_false, ]), (by simp only [ev_tmp, ev_const, upd_apply, Nat.reduceBEq, cond_true, cond_false, ]), (by simp only [ev_tmp, ev_const, upd_apply, Nat.reduceBEq, cond_true, cond_false, ]), 0, [], _, v5, _, fun _ => False, [], (by simp only [ev_tmp, ev_const, upd_apply, Nat.reduceBEq, cond_true, cond_false, ]; rfl), Nat.zero_le _, rfl, hk5', hB5, hR5, fun _ h => h.elim, Row.nil, rfl, fun j hj => by simp at hj, rfl, eR.symm, haa5, Nat.le_refl _⟩ ?_)
  clear hk5' hB5 hR5 haa5
  rintro n' f H' ⟨f0, f2, f3, f25, i, L, sti, vi, u, M', css, f26, hi, rfl, hkA, hBA, hR, hM', hrow, hcl, hel, hLi, hD, haa, hsA⟩
  have hp' := cell_lt hR.c0
  have hBl := hBA.lt (by simp)
  by_cases hil : i < rn
  · refine w_reg fun K hK => ?_
    simp (disch := omega) only [↓wD, ↓i_cbs, ↓i_csk, wU, b_and, b_or, b_shl, b_shr, Nat.reduceBEq, reduceCtorEq, Int.reduceEq, Int.reduceLT, Int.reduceLE, Int.reduceNeg, Value.cells, Value.oneCell', Nat.reduceAdd, Nat.reduceEqDiff, fillL, setL, Nat.reduceLeDiff, f25, f26, hil]
    refine hK _ _ ?_
    clear hK K
    refine w_seq ?_
    refine w_true (by simp only [ev_tmp, ev_const, upd_apply, Nat.reduceBEq, cond_true, cond_false, Bool.not_true, Bool.not_false, ]) ?_
    refine w_skip ?_
    repeat (first | with_reducible refine q_n ?_ | with_reducible refine q_e ?_ | with_reducible refine q_r ?_ | with_reducible refine bq_n ?_ | with_reducible refine bq_e ?_ | with_reducible refine bq_r ?_ | with_reducible refine bq_o rfl ?_)
    refine w_seq (w_blk ?_)
    refine w_alc (fun x => x = B) (fun x => x = p) (fun x hx => hx ▸ hp') fun K hK => ?_
    simp (disch := omega) only [↓a_nil, ↓a_st, ↓a_new, ↓a_box, ↓a_bsl, ↓a_ac, ↓a_ft, ↓a_ff, p_nil, p_new, p_box, p_bsl, ↓ow_s, ↓ow_e, ↓ow_g, ↓l_nil, ↓l_f, ↓l_t, ↓o_s, ↓o_e, ↓o_g, ↓o_ge, ↓k_ld, ↓k_ldn, isemS, ↓wD, ↓i_cbs, ↓i_csk, wU, b_and, b_or, b_shl, b_shr, Nat.reduceBEq, reduceCtorEq, Int.reduceEq, Int.reduceLT, Int.reduceLE, Int.reduceNeg, Value.cells, Value.oneCell', Nat.reduceAdd, Nat.reduceEqDiff, fillL, setL, Nat.reduceLeDiff, f0, f2, hBA.cell 0 (by simp), List.getElem_cons_zero]
    refine w_ac fun G1 gE1 => ?_
    simp (disch := omega) only [↓a_nil, ↓a_st, ↓a_new, ↓a_box, ↓a_bsl, ↓a_ac, ↓a_ft, ↓a_ff, p_nil, p_new, p_box, p_bsl, ↓ow_s, ↓ow_e, ↓ow_g, ↓l_nil, ↓l_f, ↓l_t, ↓o_s, ↓o_e, ↓o_g, ↓o_ge, ↓k_ld, ↓k_ldn, isemS, ↓wD, ↓i_cbs, ↓i_csk, wU, b_and, b_or, b_shl, b_shr, Nat.reduceBEq, reduceCtorEq, Int.reduceEq, Int.reduceLT, Int.reduceLE, Int.reduceNeg, Value.cells, Value.oneCell', Nat.reduceAdd, Nat.reduceEqDiff, fillL, setL, Nat.reduceLeDiff, f0]
    refine w_call (Flag_cl (hR.ext gE1)) ?_
    rintro _ G2 ⟨rfl, gk2, gv2, gR2⟩
    simp (disch := omega) only [↓a_nil, ↓a_st, ↓a_new, ↓a_box, ↓a_bsl, ↓a_ac, ↓a_ft, ↓a_ff, p_nil, p_new, p_box, p_bsl, ↓ow_s, ↓ow_e, ↓ow_g, ↓l_nil, ↓l_f, ↓l_t, ↓o_s, ↓o_e, ↓o_g, ↓o_ge, ↓k_ld, ↓k_ldn, isemS, ↓wD, ↓i_cbs, ↓i_csk, wU, b_and, b_or, b_shl, b_shr, Nat.reduceBEq, reduceCtorEq, Int.reduceEq, Int.reduceLT, Int.reduceLE, Int.reduceNeg, Value.cells, Value.oneCell', Nat.reduceAdd, Nat.reduceEqDiff, fillL, setL, Nat.reduceLeDiff, ]
    refine ⟨fun x => x = p, fun x hx => .inl hx, fun x hx => hx ▸ cell_lt gR2.c0, gk2.1, fun x hx hh => gk2.2 x hx (hh.elim (fun h => h.1) fun e => by omega), ?_⟩
    simp (disch := omega) only [↓a_nil, ↓a_st, ↓a_new, ↓a_box, ↓a_bsl, ↓a_ac, ↓a_ft, ↓a_ff, p_nil, p_new, p_box, p_bsl, ↓ow_s, ↓ow_e, ↓ow_g, ↓l_nil, ↓l_f, ↓l_t, ↓o_s, ↓o_e, ↓o_g, ↓o_ge, ↓k_ld, ↓k_ldn, isemS, ↓wD, ↓i_cbs, ↓i_csk, wU, b_and, b_or, b_shl, b_shr, Nat.reduceBEq, reduceCtorEq, Int.reduceEq, Int.reduceLT, Int.reduceLE, Int.reduceNeg, Value.cells, Value.oneCell', Nat.reduceAdd, Nat.reduceEqDiff, fillL, setL, Nat.reduceLeDiff, ]
    refine w_al fun y G3 gE3 hny hby hFy hAy hcy => ?_
    have hBy := Bk.at (cs := [.string .empty, .bool false, .string .empty]) hcy
    obtain ⟨G4, gw, gW⟩ := wrn_ok (l := [.string k.1, .bool (flagR sti).1, .string .empty]) hBy.own (by intro v hv; simp at hv; rcases hv with rfl | rfl | rfl <;> rfl)
    simp (disch := omega) only [↓a_nil, ↓a_st, ↓a_new, ↓a_box, ↓a_bsl, ↓a_ac, ↓a_ft, ↓a_ff, p_nil, p_new, p_box, p_bsl, ↓ow_s, ↓ow_e, ↓ow_g, ↓l_nil, ↓l_f, ↓l_t, ↓o_s, ↓o_e, ↓o_g, ↓o_ge, ↓k_ld, ↓k_ldn, isemS, ↓wD, ↓i_cbs, ↓i_csk, wU, b_and, b_or, b_shl, b_shr, Nat.reduceBEq, reduceCtorEq, Int.reduceEq, Int.reduceLT, Int.reduceLE, Int.reduceNeg, Value.cells, Value.oneCell', Nat.reduceAdd, Nat.reduceEqDiff, fillL, setL, Nat.reduceLeDiff, gw]
    refine hK _ _ ?_
    clear hK K
    have gs12 := gE1.1
    have gs2 := gk2.1
    have gs3 := gE3.1
    have hyp : y ≠ p := fun e => hFy e
    have hyn : H'.size ≤ y := hny
    have hB4 : Bk G4 y [.string k.1, .bool (flagR sti).1, .string .empty] := ⟨gW.rdn_at, fun i => by rw [gW.frz]; exact hBy.fz i⟩
    have keep4 : ∀ x, x < H'.size → x ≠ p → G4[x]? = H'[x]? := fun x hx hxp => by
      rw [gW.other x (by omega), gE3.2 x (by omega), gk2.2 x (by omega) hxp, gE1.2 x hx]
    have hS' : ∀ x, S x → x < H.size := h.lt
    have hR4 : Rr S G4 p (flagR sti).2 gv2 := (gR2.ext gE3).keep (by rw [gW.size]; exact Nat.le_refl _) fun x hx hsx => gW.other x (by
      rcases hsx with h | h
      · have := hS' x h; omega
      · omega)
    have hs4 : H'.size ≤ G4.size := by rw [gW.size]; omega
    have hy4 := hB4.lt (by simp)
    refine w_reg fun K hK => ?_
    simp (disch := omega) only [↓wD, ↓i_cbs, ↓i_csk, wU, b_and, b_or, b_shl, b_shr, Nat.reduceBEq, reduceCtorEq, Int.reduceEq, Int.reduceLT, Int.reduceLE, Int.reduceNeg, Value.cells, Value.oneCell', Nat.reduceAdd, Nat.reduceEqDiff, fillL, setL, Nat.reduceLeDiff, f0]
    refine w_call (Text_cl (most := 20) hR4) ?_
    rintro _ G5 ⟨rfl, gk5, gv5, gR5⟩
    have hB5 := hB4.keep (gk5.2 y hy4 hyp)
    have gs5 := gk5.1
    simp (disch := omega) only [↓wD, ↓i_cbs, ↓i_csk, wU, b_and, b_or, b_shl, b_shr, Nat.reduceBEq, reduceCtorEq, Int.reduceEq, Int.reduceLT, Int.reduceLE, Int.reduceNeg, Value.cells, Value.oneCell', Nat.reduceAdd, Nat.reduceEqDiff, fillL, setL, Nat.reduceLeDiff, hB5.cell 2 (by simp), hB5.fz]
    refine hK _ _ ?_
    clear hK K
    have hB5' := hB5.put 2 (.string (textR 20 (flagR sti).2).1) (by simp)
    have hyS : ¬ S y ∧ y ≠ p := ⟨fun hs => by have := hS' y hs; omega, hyp⟩
    have hR5' := gR5.putc y 2 (.string (textR 20 (flagR sti).2).1) hyS
    have hs5' : (putc G5 y 2 (.string (textR 20 (flagR sti).2).1)).size = G5.size := putc_size _ _ _ _
    have keep5 : ∀ x, x < H'.size → x ≠ p → (putc G5 y 2 (.string (textR 20 (flagR sti).2).1))[x]? = H'[x]? := fun x hx hxp => by
      rw [putc_ne (by omega), gk5.2 x (by omega) hxp, keep4 x hx hxp]
    generalize putc G5 y 2 (.string (textR 20 (flagR sti).2).1) = G6 at hB5' hR5' hs5' keep5 ⊢
    simp only [List.set_cons_succ, List.set_cons_zero] at hB5'
    have er : (readR k.1 sti).1 = ⟨k.1, (flagR sti).1, (textR 20 (flagR sti).2).1⟩ := rfl
    have er2 : (readR k.1 sti).2 = (textR 20 (flagR sti).2).2 := rfl
    have htz := textR_sz 20 (flagR sti).2 (by omega) (by omega)
    rw [← er2] at hR5'
    have hB6 := hBA.keep (keep5 B hBl hBp)
    have hrow6 := hrow.mono (M' := M') (H' := G6) (fun _ h => h) (by omega) fun x hx hx' => keep5 x hx' (by have := (hM' x hx).1; omega)
    obtain ⟨ua, uc, rfl⟩ := hrow.form
    have y0 := hB5'.cell 0 (by simp)
    have y1 := hB5'.cell 1 (by simp)
    have y2 := hB5'.cell 2 (by simp)
    simp only [List.getElem_cons_zero, List.getElem_cons_succ] at y0 y1 y2
    have hB64 := hB6.cell 4 (by simp)
    simp only [List.getElem_cons_zero, List.getElem_cons_succ] at hB64
    have hE7 := (Ext.refl G6).push (.cells #[.string k.1, .bool (flagR sti).1, .string (textR 20 (flagR sti).2).1] 100)
    have hcl1 : ([.string k.1, .bool (flagR sti).1, .string (textR 20 (flagR sti).2).1] : List Value).length = 3 ∧ One [.string k.1, .bool (flagR sti).1, .string (textR 20 (flagR sti).2).1] := by
      refine ⟨rfl, fun v hv => ?_⟩
      simp at hv
      rcases hv with rfl | rfl | rfl <;> rfl
    refine w_reg1 fun K hK => ?_
    simp (disch := omega) only [↓wD, ↓i_cbs, ↓i_csk, wU, b_and, b_or, b_shl, b_shr, Nat.reduceBEq, reduceCtorEq, Int.reduceEq, Int.reduceLT, Int.reduceLE, Int.reduceNeg, Value.cells, Value.oneCell', Nat.reduceAdd, Nat.reduceEqDiff, fillL, setL, Nat.reduceLeDiff, f2, hB64, y0, y1, y2, as_one]
    refine app_one (hrow6.mono (M' := M') (fun _ h => h) hE7.1 fun x hx hx' => hE7.2 x hx') (fun x hx => by have := (hM' x hx).2; simp; omega) hcl1 rfl (by decide) (by omega) ?_ rfl
    intro v8 H8 hrow8 hk8 hs8
    have hs8' := hk8.1
    have hsp7 : (G6.push (.cells #[.string k.1, .bool (flagR sti).1, .string (textR 20 (flagR sti).2).1] 100)).size = G6.size + 1 := by simp
    have keep8 : ∀ x, x < G6.size → ¬ M' x → H8[x]? = G6[x]? := fun x hx hm => by rw [hk8.2 x (by omega) hm, hE7.2 x hx]
    have hBM : ¬ M' B := fun hm => by have := (hM' B hm).1; omega
    have hpM : ¬ M' p := fun hm => by have := (hM' p hm).1; omega
    have hB8 := hB6.keep (keep8 B (by omega) hBM)
    obtain ⟨va, vc, rfl⟩ := hrow8.form
    simp (disch := omega) only [↓wD, ↓i_cbs, ↓i_csk, wU, b_and, b_or, b_shl, b_shr, Nat.reduceBEq, reduceCtorEq, Int.reduceEq, Int.reduceLT, Int.reduceLE, Int.reduceNeg, Value.cells, Value.oneCell', Nat.reduceAdd, Nat.reduceEqDiff, fillL, setL, Nat.reduceLeDiff, f2, hB8.cell 4 (by simp), hB8.fz]
    refine hK _ _ ?_
    repeat (first | with_reducible refine q_n ?_ | with_reducible refine q_e ?_ | with_reducible refine q_r ?_ | with_reducible refine bq_n ?_ | with_reducible refine bq_e ?_ | with_reducible refine bq_r ?_ | with_reducible refine bq_o rfl ?_)
    refine w_reg1 fun K hK => ?_
    simp (disch := omega) only [↓wD, ↓i_cbs, ↓i_csk, wU, b_and, b_or, b_shl, b_shr, Nat.reduceBEq, reduceCtorEq, Int.reduceEq, Int.reduceLT, Int.reduceLE, Int.reduceNeg, Value.cells, Value.oneCell', Nat.reduceAdd, Nat.reduceEqDiff, fillL, setL, Nat.reduceLeDiff, f26]
    refine hK _ _ ?_
    clear hK K
    repeat (first | with_reducible refine q_n ?_ | with_reducible refine q_e ?_ | with_reducible refine q_r ?_ | with_reducible refine bq_n ?_ | with_reducible refine bq_e ?_ | with_reducible refine bq_r ?_ | with_reducible refine bq_o rfl ?_)
    have hB9 := hB8.put 4 (.slice va (css ++ [([.string k.1, .bool (flagR sti).1, .string (textR 20 (flagR sti).2).1] : List Value)]).length vc) (by simp)
    simp only [List.set_cons_succ, List.set_cons_zero] at hB9
    have hs9 : (putc H8 B 4 (.slice va (css ++ [([.string k.1, .bool (flagR sti).1, .string (textR 20 (flagR sti).2).1] : List Value)]).length vc)).size = H8.size := putc_size _ _ _ _
    have hpn : ∀ x, x ≠ B → (putc H8 B 4 (.slice va (css ++ [([.string k.1, .bool (flagR sti).1, .string (textR 20 (flagR sti).2).1] : List Value)]).length vc))[x]? = H8[x]? := fun x hx => putc_ne hx
    generalize putc H8 B 4 (.slice va (css ++ [([.string k.1, .bool (flagR sti).1, .string (textR 20 (flagR sti).2).1] : List Value)]).length vc) = H9 at hB9 hs9 hpn ⊢
    refine ⟨rn - (i + 1), by omega, (by simp only [ev_tmp, ev_const, upd_apply, Nat.reduceBEq, cond_true, cond_false, f0]), (by simp only [ev_tmp, ev_const, upd_apply, Nat.reduceBEq, cond_true, cond_false, f2]), (by simp only [ev_tmp, ev_const, upd_apply, Nat.reduceBEq, cond_true, cond_false, f3]), (by simp only [ev_tmp, ev_const, upd_apply, Nat.reduceBEq, cond_true, cond_false, f25]), i + 1, L ++ [(readR k.1 sti).1], (readR k.1 sti).2, gv5, .slice va (css ++ [([.string k.1, .bool (flagR sti).1, .string (textR 20 (flagR sti).2).1] : List Value)]).length vc, fun x => (M' x ∨ x = (G6.push (.cells #[.string k.1, .bool (flagR sti).1, .string (textR 20 (flagR sti).2).1] 100)).size) ∧ x < H8.size, css ++ [([.string k.1, .bool (flagR sti).1, .string (textR 20 (flagR sti).2).1] : List Value)], (by simp only [ev_tmp, ev_const, upd_apply, Nat.reduceBEq, cond_true, cond_false, ]), by omega, rfl, ?_, hB9, ?_, ?_, ?_, by simp [hcl], ?_, by simp [hLi], ?_, ?_, by omega⟩
    · exact ⟨by omega, fun x hx hxp => by rw [hpn x hxp.2, keep8 x (by omega) (fun hm => by have := (hM' x hm).1; omega), keep5 x (by have := hkA.1; omega) hxp.1, hkA.2 x hx hxp]⟩
    · refine hR5'.keep (by omega) fun x hx hsx => ?_
      have hxS : x ≠ B ∧ ¬ M' x := by
        rcases hsx with h1 | h1
        · have := hS' x h1
          exact ⟨by omega, fun hm => by have := (hM' x hm).1; omega⟩
        · subst h1; exact ⟨fun e => hBp e.symm, hpM⟩
      rw [hpn x hxS.1, keep8 x hx hxS.2]
    · rintro x ⟨hx | hx, hx2⟩
      · exact ⟨(hM' x hx).1, by omega⟩
      · exact ⟨by omega, by omega⟩
    · exact hrow8.lt.mono (fun _ h => h) (by omega) fun x hx hx' => hpn x fun e => by
        subst e
        rcases hx.1 with h | h
        · exact hBM h
        · omega
    · intro j hj hl
      by_cases hjl : j < css.length
      · rw [List.getElem_append_left hjl, List.getElem_append_left (by omega)]
        exact hel j hjl (by omega)
      · simp only [List.length_append, List.length_cons, List.length_nil] at hj hl
        rw [List.getElem_append_right (by omega), List.getElem_append_right (by omega)]
        have e1 : j - css.length = 0 := by omega
        have e2 : j - L.length = 0 := by omega
        simp only [e1, e2, List.getElem_cons_zero]
        exact ⟨rfl, hkz.1, htz.1⟩
    · rw [← hD]
      have : rn - i = (rn - (i + 1)) + 1 := by omega
      rw [this, readsL]
    · exact haa.mono (fun _ h => h) (fun x hx hx' => by
        have h1 := hMa5 x hx
        rw [hpn x (by omega), keep8 x (by omega) (fun hm => by have := (hM' x hm).1; omega), keep5 x hx' (by omega)]) fun _ _ _ h => h
  · refine w_reg fun K hK => ?_
    simp (disch := omega) only [↓wD, ↓i_cbs, ↓i_csk, wU, b_and, b_or, b_shl, b_shr, Nat.reduceBEq, reduceCtorEq, Int.reduceEq, Int.reduceLT, Int.reduceLE, Int.reduceNeg, Value.cells, Value.oneCell', Nat.reduceAdd, Nat.reduceEqDiff, fillL, setL, Nat.reduceLeDiff, f25, f26, hil]
    refine hK _ _ ?_
    clear hK K
    refine w_seq ?_
    refine w_false (by simp only [ev_tmp, ev_const, upd_apply, Nat.reduceBEq, cond_true, cond_false, Bool.not_true, Bool.not_false, ]) ?_
    refine w_exit ?_
    repeat (first | with_reducible refine q_n ?_ | with_reducible refine q_e ?_ | with_reducible refine q_r ?_ | with_reducible refine bq_n ?_ | with_reducible refine bq_e ?_ | with_reducible refine bq_r ?_ | with_reducible refine bq_o rfl ?_)
    have e : rn - i = 0 := by omega
    rw [e, readsL] at hD
    subst hD
    simp only at hb ⊢
    have hrr : RdSl M' H' u L := hrow.slp hcl (by rw [hLi]; unfold big; omega) hel
    obtain ⟨ua, uc, eu⟩ := hrow.form
    rw [hcl] at eu
    have hS' : ∀ x, S x → x < H.size := h.lt
    -- put
    refine w_reg fun K hK => ?_
    simp (disch := omega) only [↓wD, ↓i_cbs, ↓i_csk, wU, b_and, b_or, b_shl, b_shr, Nat.reduceBEq, reduceCtorEq, Int.reduceEq, Int.reduceLT, Int.reduceLE, Int.reduceNeg, Value.cells, Value.oneCell', Nat.reduceAdd, Nat.reduceEqDiff, fillL, setL, Nat.reduceLeDiff, f0]
    refine w_call (Flag_cl hR) ?_
    rintro _ H6 ⟨rfl, gk6, gv6, gR6⟩
    rw [← hb] at gR6 ⊢
    have gs6 := gk6.1
    have hB6 := hBA.keep (gk6.2 B hBl hBp)
    simp (disch := omega) only [↓wD, ↓i_cbs, ↓i_csk, wU, b_and, b_or, b_shl, b_shr, Nat.reduceBEq, reduceCtorEq, Int.reduceEq, Int.reduceLT, Int.reduceLE, Int.reduceNeg, Value.cells, Value.oneCell', Nat.reduceAdd, Nat.reduceEqDiff, fillL, setL, Nat.reduceLeDiff, f2, hB6.cell 5 (by simp), hB6.fz]
    refine hK _ _ ?_
    clear hK K
    have hB6' := hB6.put 5 (.bool b.1) (by simp)
    simp only [List.set_cons_succ, List.set_cons_zero] at hB6'
    have hR6' := gR6.putc B 5 (.bool b.1) hBS
    have hsz6 : (putc H6 B 5 (.bool b.1)).size = H6.size := putc_size _ _ _ _
    have keep6 : ∀ x, x < H'.size → x ≠ p → x ≠ B → (putc H6 B 5 (.bool b.1))[x]? = H'[x]? := fun x hx hxp hxB => by rw [putc_ne hxB, gk6.2 x hx hxp]
    generalize putc H6 B 5 (.bool b.1) = G6 at hB6' hR6' hsz6 keep6 ⊢
    -- the value
    refine w_reg fun K hK => ?_
    simp (disch := omega) only [↓wD, ↓i_cbs, ↓i_csk, wU, b_and, b_or, b_shl, b_shr, Nat.reduceBEq, reduceCtorEq, Int.reduceEq, Int.reduceLT, Int.reduceLE, Int.reduceNeg, Value.cells, Value.oneCell', Nat.reduceAdd, Nat.reduceEqDiff, fillL, setL, Nat.reduceLeDiff, f0]
    refine w_call (Text_cl (most := 20) hR6') ?_
    rintro _ H7 ⟨rfl, gk7, gv7, gR7⟩
    have hwz := textR_sz 20 b.2 (by omega) (by omega)
    rw [← hw] at gR7 hwz ⊢
    have gs7 := gk7.1
    have hB7 := hB6'.keep (gk7.2 B (by omega) hBp)
    simp (disch := omega) only [↓wD, ↓i_cbs, ↓i_csk, wU, b_and, b_or, b_shl, b_shr, Nat.reduceBEq, reduceCtorEq, Int.reduceEq, Int.reduceLT, Int.reduceLE, Int.reduceNeg, Value.cells, Value.oneCell', Nat.reduceAdd, Nat.reduceEqDiff, fillL, setL, Nat.reduceLeDiff, f2, hB7.cell 6 (by simp), hB7.fz]
    refine hK _ _ ?_
    clear hK K
    have hB7' := hB7.put 6 (.string w.1) (by simp)
    simp only [List.set_cons_succ, List.set_cons_zero] at hB7'
    have hR7' := gR7.putc B 6 (.string w.1) hBS
    have hsz7 : (putc H7 B 6 (.string w.1)).size = H7.size := putc_size _ _ _ _
    have keep7 : ∀ x, x < H'.size → x ≠ p → x ≠ B → (putc H7 B 6 (.string w.1))[x]? = H'[x]? := fun x hx hxp hxB => by rw [putc_ne hxB, gk7.2 x (by omega) hxp, keep6 x hx hxp hxB]
    generalize putc H7 B 6 (.string w.1) = G7 at hB7' hR7' hsz7 keep7 ⊢
    clear hB6 hB7 hB6' hR6' gR6 gR7
    have hMB : ∀ x, Ma x ∨ M' x → x < H'.size ∧ x ≠ p ∧ x ≠ B ∧ H0.size ≤ x := by
      rintro x (hx | hx)
      · have := hMa5 x hx; exact ⟨by omega, by omega, by omega, by omega⟩
      · have := hM' x hx; exact ⟨by omega, by omega, by omega, by omega⟩
    have haa7 : AcSl (fun x => Ma x ∨ M' x) G7 (.slice aa a.1.1.length aac) a.1.1 := haa.mono (fun _ h => .inl h) (fun x hx hx' => by have := hMB x (.inl hx); exact keep7 x this.1 this.2.1 this.2.2.1) fun _ _ _ h => h
    have hrr7 : RdSl (fun x => Ma x ∨ M' x) G7 u L := hrr.mono (fun _ h => .inr h) (fun x hx hx' => by have := hMB x (.inr hx); exact keep7 x this.1 this.2.1 this.2.2.1) fun _ _ _ h => h
    have hEl : ElHd (fun x => Ma x ∨ M' x) G7 [.string k.1, .int .i64 c.1, .int .i64 n.1, .slice aa a.1.1.length aac, u, .bool b.1, .string w.1] ⟨k.1, ⟨c.1, n.1⟩, a.1.1, L, b.1, w.1⟩ :=
      ⟨_, _, rfl, haa7, hrr7, ⟨⟨by simp only; omega, by simp only; omega⟩, ⟨by simp only; omega, by simp only; omega⟩⟩, hkz.1, hwz.1⟩
    obtain ⟨cs, ecs⟩ : ∃ cs : List Value, cs = [.string k.1, .int .i64 c.1, .int .i64 n.1, .slice aa a.1.1.length aac, u, .bool b.1, .string w.1] := ⟨_, rfl⟩
    rw [← ecs] at hEl
    have b0 := hB7'.cell 0 (by simp)
    have b1 := hB7'.cell 1 (by simp)
    have b2 := hB7'.cell 2 (by simp)
    have b3 := hB7'.cell 3 (by simp)
    have b4 := hB7'.cell 4 (by simp)
    have b5 := hB7'.cell 5 (by simp)
    have b6 := hB7'.cell 6 (by simp)
    simp only [List.getElem_cons_zero, List.getElem_cons_succ] at b0 b1 b2 b3 b4 b5 b6
    have hk07 : KeepOn (fun x => x ≠ p) H G7 := ⟨by have := hkA.1; omega, fun x hx hxp => by rw [keep7 x (by have := hkA.1; omega) hxp (by omega), hkA.2 x (by omega) ⟨hxp, by omega⟩, hE0.2 x hx]⟩
    subst eu
    have one : ∀ v ∈ cs, v.oneCell' = true := by
      rw [ecs]; intro v hv
      simp at hv
      rcases hv with rfl | rfl | rfl | rfl | rfl | rfl | rfl <;> rfl
    have last : ∀ (G8 : Hp), Ext G7 G8 → ∃ G9, wrn G8 B 0 cs = some G9 ∧ Bk G9 B cs ∧ RrP S H p w.2 G9 ∧ (∀ x, (Ma x ∨ M' x) → H.size ≤ x ∧ x < G9.size) ∧ ElHd (fun x => Ma x ∨ M' x) G9 cs ⟨k.1, ⟨c.1, n.1⟩, a.1.1, L, b.1, w.1⟩ := by
      intro G8 hE8
      rw [← ecs] at hB7'
      have hBl7 := hB7'.lt (by rw [ecs]; simp)
      have hB8 := hB7'.keep (hE8.2 B hBl7)
      obtain ⟨G9, hw9, hW9⟩ := wrn_ok hB8.own one
      have hs9 := hW9.size
      have hs8 := hE8.1
      refine ⟨G9, hw9, ⟨hW9.rdn_at, fun i => by rw [hW9.frz]; exact hB8.fz i⟩, ⟨⟨by have := hk07.1; omega, fun x hx hxp => by rw [hW9.other x (by omega), hE8.2 x (by have := hk07.1; omega), hk07.2 x hx hxp]⟩, gv7, (hR7'.ext hE8).keep (by omega) fun x hx hsx => hW9.other x ?_⟩, fun x hx => ?_, ?_⟩
      · rcases hsx with h1 | h1
        · have := hS' x h1; omega
        · omega
      · have := hMB x hx; exact ⟨by omega, by omega⟩
      · exact (hEl.ext hE8).mono (fun _ h => h) fun x hx _ => hW9.other x (hMB x hx).2.2.1
    cases hok : a.1.2 with
    | false =>
      obtain ⟨G9, hw9, hB9, hP9, hM9, hE9⟩ := last G7 (Ext.refl _)
      rw [ecs] at hw9 hB9
      rw [hok] at f3
      refine w_lin (fun x => x = B) fun K hK => ?_
      simp (disch := omega) only [↓l_nil, ↓l_f, ↓l_t, ↓o_s, ↓o_e, ↓o_g, ↓o_ge, ↓k_ld, ↓k_ldn, isemS, ↓wD, ↓i_cbs, ↓i_csk, wU, b_and, b_or, b_shl, b_shr, Nat.reduceBEq, reduceCtorEq, Int.reduceEq, Int.reduceLT, Int.reduceLE, Int.reduceNeg, Value.cells, Value.oneCell', Nat.reduceAdd, Nat.reduceEqDiff, fillL, setL, Nat.reduceLeDiff, f2, f3, b0, b1, b2, b3, b4, b5, b6, hw9]
      refine ⟨(Ext.refl _).on _, ?_⟩
      refine hK _ _ ?_
      clear hK K
      refine w_ret ?_
      repeat (first | with_reducible refine q_n ?_ | with_reducible refine q_e ?_ | with_reducible refine q_r ?_ | with_reducible refine bq_n ?_ | with_reducible refine bq_e ?_ | with_reducible refine bq_r ?_ | with_reducible refine bq_o rfl ?_)
      refine retG (v := .tuple #[.agg cs.toArray, .bool false]) (by
        have := hB9.rd
        simp only [List.length_cons, List.length_nil, Nat.zero_add, Nat.reduceAdd] at this
        simp only [resV, rvsV, rvV, ev_tmp, ev_const, upd_apply, Nat.reduceBEq, cond_true, cond_false, f2, this, ecs, Option.map_some, oneOr]) ?_
      rw [Bool.false_and]
      exact ⟨hP9, cs, _, rfl, fun x hx => by have := hM9 x hx; omega, hE9⟩
    | true =>
      rw [hok] at f3
      refine w_lin (fun x => x = B) fun K hK => ?_
      simp (disch := omega) only [↓l_nil, ↓l_f, ↓l_t, ↓o_s, ↓o_e, ↓o_g, ↓o_ge, ↓k_ld, ↓k_ldn, isemS, ↓wD, ↓i_cbs, ↓i_csk, wU, b_and, b_or, b_shl, b_shr, Nat.reduceBEq, reduceCtorEq, Int.reduceEq, Int.reduceLT, Int.reduceLE, Int.reduceNeg, Value.cells, Value.oneCell', Nat.reduceAdd, Nat.reduceEqDiff, fillL, setL, Nat.reduceLeDiff, f2, f3, b0, b1, b2, b3, b4, b5, b6]
      rw [← ecs]
      refine w_call (hright_cl hEl) ?_
      rintro _ G8 ⟨rfl, hE8⟩
      obtain ⟨G9, hw9, hB9, hP9, hM9, hE9⟩ := last G8 hE8
      rw [ecs] at hw9 hB9
      simp (disch := omega) only [↓l_nil, ↓l_f, ↓l_t, ↓o_s, ↓o_e, ↓o_g, ↓o_ge, ↓k_ld, ↓k_ldn, isemS, ↓wD, ↓i_cbs, ↓i_csk, wU, b_and, b_or, b_shl, b_shr, Nat.reduceBEq, reduceCtorEq, Int.reduceEq, Int.reduceLT, Int.reduceLE, Int.reduceNeg, Value.cells, Value.oneCell', Nat.reduceAdd, Nat.reduceEqDiff, fillL, setL, Nat.reduceLeDiff, hw9, f2, f3, ecs]
      refine ⟨hE8.on _, ?_⟩
      refine hK _ _ ?_
      clear hK K
      refine w_ret ?_
      repeat (first | with_reducible refine q_n ?_ | with_reducible refine q_e ?_ | with_reducible refine q_r ?_ | with_reducible refine bq_n ?_ | with_reducible refine bq_e ?_ | with_reducible refine bq_r ?_ | with_reducible refine bq_o rfl ?_)
      refine retG (v := .tuple #[.agg cs.toArray, .bool (rightB ⟨k.1, ⟨c.1, n.1⟩, a.1.1, L, b.1, w.1⟩)]) (by
        have := hB9.rd
        simp only [List.length_cons, List.length_nil, Nat.zero_add, Nat.reduceAdd] at this
        simp only [resV, rvsV, rvV, ev_tmp, ev_const, upd_apply, Nat.reduceBEq, cond_true, cond_false, f2, this, ecs, Option.map_some, oneOr]) ?_
      rw [Bool.true_and]
      exact ⟨hP9, cs, _, rfl, fun x hx => by have := hM9 x hx; omega, hE9⟩
end Go.WK
/-
  holds.Read.
-/
namespace Go.WK
open Go Go.Proofs

theorem failed_cl {S : Nat → Prop} {H : Hp} {p : Nat} {st : St} {v : Value} (h : Rr S H p st v) : Cl Tryz.prog 76 [.pointer (some ⟨p, 0, none⟩)] H fun r H' => r = .bool st.isNone ∧ H' = H := by
  refine cl_of mixed c_holds_failed (Nat.le_of_ble_eq_true rfl) ?_
  simp only [fwp, ir_holds_failed, argF, Nat.reduceAdd]
  refine w_reg fun K hK => ?_
  simp (disch := omega) only [↓wD, ↓i_cbs, ↓i_csk, wU, b_and, b_or, b_shl, b_shr, Nat.reduceBEq, reduceCtorEq, Int.reduceEq, Int.reduceLT, Int.reduceLE, Int.reduceNeg, Value.cells, Value.oneCell', Nat.reduceAdd, Nat.reduceEqDiff, fillL, setL, Nat.reduceLeDiff, ]
  refine hK _ _ ?_
  clear hK K
  refine w_reg fun K hK => ?_
  simp (disch := omega) only [↓wD, ↓i_cbs, ↓i_csk, wU, b_and, b_or, b_shl, b_shr, Nat.reduceBEq, reduceCtorEq, Int.reduceEq, Int.reduceLT, Int.reduceLE, Int.reduceNeg, Value.cells, Value.oneCell', Nat.reduceAdd, Nat.reduceEqDiff, fillL, setL, Nat.reduceLeDiff, ]
  refine w_call (Left_cl h) ?_
  rintro _ _ ⟨rfl, rfl⟩
  match st, h with
  | none, h =>
    simp (disch := omega) only [↓wD, ↓i_cbs, ↓i_csk, wU, b_and, b_or, b_shl, b_shr, Nat.reduceBEq, reduceCtorEq, Int.reduceEq, Int.reduceLT, Int.reduceLE, Int.reduceNeg, Value.cells, Value.oneCell', Nat.reduceAdd, Nat.reduceEqDiff, fillL, setL, Nat.reduceLeDiff, Option.getD_none, List.length_nil]
    refine w_call (End_cl h) ?_
    rintro _ _ ⟨rfl, rfl⟩
    simp (disch := omega) only [↓wD, ↓i_cbs, ↓i_csk, wU, b_and, b_or, b_shl, b_shr, Nat.reduceBEq, reduceCtorEq, Int.reduceEq, Int.reduceLT, Int.reduceLE, Int.reduceNeg, Value.cells, Value.oneCell', Nat.reduceAdd, Nat.reduceEqDiff, fillL, setL, Nat.reduceLeDiff, endR]
    refine hK _ _ ?_
    clear hK K
    refine w_ret ?_
    repeat (first | with_reducible refine q_n ?_ | with_reducible refine q_e ?_ | with_reducible refine q_r ?_ | with_reducible refine bq_n ?_ | with_reducible refine bq_e ?_ | with_reducible refine bq_r ?_ | with_reducible refine bq_o rfl ?_)
    refine ret1 (by (try simp only [ev_tmp, ev_const, upd_apply, Nat.reduceBEq, cond_true, cond_false, ]); rfl) ?_
    exact ⟨rfl, rfl⟩
  | some [], h =>
    simp (disch := omega) only [↓wD, ↓i_cbs, ↓i_csk, wU, b_and, b_or, b_shl, b_shr, Nat.reduceBEq, reduceCtorEq, Int.reduceEq, Int.reduceLT, Int.reduceLE, Int.reduceNeg, Value.cells, Value.oneCell', Nat.reduceAdd, Nat.reduceEqDiff, fillL, setL, Nat.reduceLeDiff, Option.getD_some, List.length_nil]
    refine w_call (End_cl h) ?_
    rintro _ _ ⟨rfl, rfl⟩
    simp (disch := omega) only [↓wD, ↓i_cbs, ↓i_csk, wU, b_and, b_or, b_shl, b_shr, Nat.reduceBEq, reduceCtorEq, Int.reduceEq, Int.reduceLT, Int.reduceLE, Int.reduceNeg, Value.cells, Value.oneCell', Nat.reduceAdd, Nat.reduceEqDiff, fillL, setL, Nat.reduceLeDiff, endR]
    refine hK _ _ ?_
    clear hK K
    refine w_ret ?_
    repeat (first | with_reducible refine q_n ?_ | with_reducible refine q_e ?_ | with_reducible refine q_r ?_ | with_reducible refine bq_n ?_ | with_reducible refine bq_e ?_ | with_reducible refine bq_r ?_ | with_reducible refine bq_o rfl ?_)
    refine ret1 (by (try simp only [ev_tmp, ev_const, upd_apply, Nat.reduceBEq, cond_true, cond_false, ]); rfl) ?_
    exact ⟨rfl, rfl⟩
  | some (x :: l), h =>
    have z : (((l.length + 1 : Nat) : Int) = 0) = False := by simp; omega
    simp (disch := omega) only [↓wD, ↓i_cbs, ↓i_csk, wU, b_and, b_or, b_shl, b_shr, Nat.reduceBEq, reduceCtorEq, Int.reduceEq, Int.reduceLT, Int.reduceLE, Int.reduceNeg, Value.cells, Value.oneCell', Nat.reduceAdd, Nat.reduceEqDiff, fillL, setL, Nat.reduceLeDiff, Option.getD_some, List.length_cons, z]
    refine hK _ _ ?_
    clear hK K
    refine w_ret ?_
    repeat (first | with_reducible refine q_n ?_ | with_reducible refine q_e ?_ | with_reducible refine q_r ?_ | with_reducible refine bq_n ?_ | with_reducible refine bq_e ?_ | with_reducible refine bq_r ?_ | with_reducible refine bq_o rfl ?_)
    refine ret1 (by (try simp only [ev_tmp, ev_const, upd_apply, Nat.reduceBEq, cond_true, cond_false, ]); rfl) ?_
    exact ⟨rfl, rfl⟩
def badH (l : List Hd) (x : (Hd × Bool) × St) : Bool := !x.1.2 || x.2.isNone || (match l.getLast? with | none => false | some y => !sless y.key x.1.1.key)
def holdsL : Nat → List Hd → St → (List Hd × Bool) × St
  | 0, l, st => ((l, !st.isNone), st)
  | n + 1, l, st => if badH l (hdR st) then (([], false), (hdR st).2) else holdsL n (l ++ [(hdR st).1.1]) (hdR st).2
def holdsR (st : St) : (List Hd × Bool) × St := holdsL (numR 60 st).1.toNat [] (numR 60 st).2
set_option maxHeartbeats 4000000 in
theorem Read_cl {S : Nat → Prop} {H : Hp} {p : Nat} {st : St} {v : Value} (h : Rr S H p st v) :
    Cl Tryz.prog 29 [.pointer (some ⟨p, 0, none⟩)] H fun r H' => RrP S H p (holdsR st).2 H' ∧ ∃ (u : Value) (R : Nat → Prop), r = .tuple #[u, .bool (holdsR st).1.2] ∧ (∀ x, R x → H.size ≤ x ∧ x < H'.size) ∧ HdSl R H' u (holdsR st).1.1 := by
  suffices hh : ∀ n : Nat, (numR 60 st).1 = n → Cl Tryz.prog 29 [.pointer (some ⟨p, 0, none⟩)] H fun r H' => RrP S H p (holdsL n [] (numR 60 st).2).2 H' ∧ ∃ (u : Value) (R : Nat → Prop), r = .tuple #[u, .bool (holdsL n [] (numR 60 st).2).1.2] ∧ (∀ x, R x → H.size ≤ x ∧ x < H'.size) ∧ HdSl R H' u (holdsL n [] (numR 60 st).2).1.1 by
    have hb := numR_bd 60 st (by omega)
    have := hh (numR 60 st).1.toNat (by omega)
    exact this
  intro n hn
  refine cl_of mixed c_holds_Read (Nat.le_of_ble_eq_true rfl) ?_
  simp only [fwp, ir_holds_Read, argF, Nat.reduceAdd]
  have hp := cell_lt h.c0
  refine w_reg fun K hK => ?_
  simp (disch := omega) only [↓wD, ↓i_cbs, ↓i_csk, wU, b_and, b_or, b_shl, b_shr, Nat.reduceBEq, reduceCtorEq, Int.reduceEq, Int.reduceLT, Int.reduceLE, Int.reduceNeg, Value.cells, Value.oneCell', Nat.reduceAdd, Nat.reduceEqDiff, fillL, setL, Nat.reduceLeDiff, ]
  refine hK _ _ ?_
  clear hK K
  refine w_reg fun K hK => ?_
  simp (disch := omega) only [↓wD, ↓i_cbs, ↓i_csk, wU, b_and, b_or, b_shl, b_shr, Nat.reduceBEq, reduceCtorEq, Int.reduceEq, Int.reduceLT, Int.reduceLE, Int.reduceNeg, Value.cells, Value.oneCell', Nat.reduceAdd, Nat.reduceEqDiff, fillL, setL, Nat.reduceLeDiff, ]
  refine hK _ _ ?_
  clear hK K
  refine w_seq ?_
  refine w_reg fun K hK => ?_
  simp (disch := omega) only [↓wD, ↓i_cbs, ↓i_csk, wU, b_and, b_or, b_shl, b_shr, Nat.reduceBEq, reduceCtorEq, Int.reduceEq, Int.reduceLT, Int.reduceLE, Int.reduceNeg, Value.cells, Value.oneCell', Nat.reduceAdd, Nat.reduceEqDiff, fillL, setL, Nat.reduceLeDiff, ]
  refine w_call (Number_cl (most := 60) h) ?_
  rintro _ H1 ⟨rfl, hk1, v1, hR1⟩
  obtain ⟨hn0, hn6⟩ := numR_bd 60 st (by omega)
  rw [hn] at hn6
  simp (disch := omega) only [↓wD, ↓i_cbs, ↓i_csk, wU, b_and, b_or, b_shl, b_shr, Nat.reduceBEq, reduceCtorEq, Int.reduceEq, Int.reduceLT, Int.reduceLE, Int.reduceNeg, Value.cells, Value.oneCell', Nat.reduceAdd, Nat.reduceEqDiff, fillL, setL, Nat.reduceLeDiff, hn]
  refine hK _ _ ?_
  clear hK K
  refine w_seq ?_
  refine w_reg fun K hK => ?_
  simp (disch := omega) only [↓wD, ↓i_cbs, ↓i_csk, wU, b_and, b_or, b_shl, b_shr, Nat.reduceBEq, reduceCtorEq, Int.reduceEq, Int.reduceLT, Int.reduceLE, Int.reduceNeg, Value.cells, Value.oneCell', Nat.reduceAdd, Nat.reduceEqDiff, fillL, setL, Nat.reduceLeDiff, ]
  refine hK _ _ ?_
  clear hK K
  refine w_blk (w_loop (fun n' f H' => f 0 = .pointer (some ⟨p, 0, none⟩) ∧ f 11 = .int .i64 n ∧ ∃ (i : Nat) (L : List Hd) (sti : St) (vi u : Value) (M' G' : Nat → Prop), f 12 = .int .i64 i ∧ i ≤ n ∧ n' = n - i ∧ f 4 = u ∧ KeepOn (fun x => x ≠ p) H H' ∧ Rr S H' p sti vi ∧ (∀ x, M' x ∨ G' x → H.size ≤ x ∧ x < H'.size) ∧ (∀ x, M' x → ¬ G' x) ∧ RowHd M' G' H' u L ∧ L.length = i ∧ holdsL (n - i) L sti = holdsL n [] (numR 60 st).2) n ⟨(by simp only [ev_tmp, ev_const, upd_apply, Nat.reduceBEq, cond_true, cond_false, ]), (by simp only [ev_tmp, ev_const, upd_apply, Nat.reduceBEq, cond_true, cond_false, ]), 0, [], _, v1, _, fun _ => False, fun _ => False, (by simp only [ev_tmp, ev_const, upd_apply, Nat.reduceBEq, cond_true, cond_false, ]; rfl), Nat.zero_le _, rfl, (by simp only [ev_tmp, ev_const, upd_apply, Nat.reduceBEq, cond_true, cond_false, ]), hk1, hR1, fun _ h => h.elim False.elim False.elim, fun _ h => h.elim, RowHd.nil, rfl, rfl⟩ ?_)
  rintro n' f H' ⟨f0, f11, i, L, sti, vi, u, M', G', f12, hi, rfl, f4, hkA, hR, hMG, hdis, hrow, hLi, hD⟩
  by_cases hil : i < n
  · refine w_reg fun K hK => ?_
    simp (disch := omega) only [↓wD, ↓i_cbs, ↓i_csk, wU, b_and, b_or, b_shl, b_shr, Nat.reduceBEq, reduceCtorEq, Int.reduceEq, Int.reduceLT, Int.reduceLE, Int.reduceNeg, Value.cells, Value.oneCell', Nat.reduceAdd, Nat.reduceEqDiff, fillL, setL, Nat.reduceLeDiff, f11, f12, hil]
    refine hK _ _ ?_
    clear hK K
    refine w_seq ?_
    refine w_true (by simp only [ev_tmp, ev_const, upd_apply, Nat.reduceBEq, cond_true, cond_false, Bool.not_true, Bool.not_false, ]) ?_
    refine w_skip ?_
    repeat (first | with_reducible refine q_n ?_ | with_reducible refine q_e ?_ | with_reducible refine q_r ?_ | with_reducible refine bq_n ?_ | with_reducible refine bq_e ?_ | with_reducible refine bq_r ?_ | with_reducible refine bq_o rfl ?_)
    refine w_seq (w_blk ?_)
    have hps := hkA.1
    have hp' := cell_lt hR.c0
    refine w_reg fun K hK => ?_
    simp (disch := omega) only [↓wD, ↓i_cbs, ↓i_csk, wU, b_and, b_or, b_shl, b_shr, Nat.reduceBEq, reduceCtorEq, Int.reduceEq, Int.reduceLT, Int.reduceLE, Int.reduceNeg, Value.cells, Value.oneCell', Nat.reduceAdd, Nat.reduceEqDiff, fillL, setL, Nat.reduceLeDiff, f12]
    refine hK _ _ ?_
    clear hK K
    refine w_reg fun K hK => ?_
    simp (disch := omega) only [↓wD, ↓i_cbs, ↓i_csk, wU, b_and, b_or, b_shl, b_shr, Nat.reduceBEq, reduceCtorEq, Int.reduceEq, Int.reduceLT, Int.reduceLE, Int.reduceNeg, Value.cells, Value.oneCell', Nat.reduceAdd, Nat.reduceEqDiff, fillL, setL, Nat.reduceLeDiff, f0]
    refine w_call (hold_cl hR) ?_
    rintro _ G1 ⟨⟨gk1, gv1, gR1⟩, cs, Gn, rfl, hGn, hEl⟩
    have hl7 := hEl.len
    have hB := Bk.new G1 [.string .empty, .int .i64 0, .int .i64 0, .slice none 0 0, .slice none 0 0, .bool false, .string .empty] 35
    have hs1 : (G1.push (.cells #[.string .empty, .int .i64 0, .int .i64 0, .slice none 0 0, .slice none 0 0, .bool false, .string .empty] 35)).size = G1.size + 1 := by simp
    have hE1 : Ext G1 (G1.push (.cells #[.string .empty, .int .i64 0, .int .i64 0, .slice none 0 0, .slice none 0 0, .bool false, .string .empty] 35)) := (Ext.refl _).push _
    obtain ⟨G2, hw2, hW2⟩ := wrn_ok (l := cs) (by rw [hl7]; exact hB.own) hEl.one
    simp (disch := omega) only [↓wD, ↓i_cbs, ↓i_csk, wU, b_and, b_or, b_shl, b_shr, Nat.reduceBEq, reduceCtorEq, Int.reduceEq, Int.reduceLT, Int.reduceLE, Int.reduceNeg, Value.cells, Value.oneCell', Nat.reduceAdd, Nat.reduceEqDiff, fillL, setL, Nat.reduceLeDiff, hl7, hw2]
    refine hK _ _ ?_
    clear hK K
    generalize G1.push (.cells #[.string .empty, .int .i64 0, .int .i64 0, .slice none 0 0, .slice none 0 0, .bool false, .string .empty] 35) = G1' at hB hs1 hE1 hW2 hw2
    have hB2 : Bk G2 G1.size cs := ⟨hW2.rdn_at, fun i => by rw [hW2.frz]; exact hB.fz i⟩
    have hs2 := hW2.size
    have gs1 := gk1.1
    have keep2 : ∀ x, x < H'.size → x ≠ p → G2[x]? = H'[x]? := fun x hx hxp => by
      rw [hW2.other x (by omega), hE1.2 x (by omega), gk1.2 x hx hxp]
    have keep12 : ∀ x, x < G1.size → G2[x]? = G1[x]? := fun x hx => by rw [hW2.other x (by omega), hE1.2 x hx]
    have hR2 : Rr S G2 p (hdR sti).2 gv1 := gR1.keep (by omega) fun x hx _ => keep12 x hx
    have hEl2 : ElHd Gn G2 cs (hdR sti).1.1 := hEl.mono (fun _ h => h) fun x _ hx => keep12 x hx
    have hrow2 : RowHd M' G' G2 u L := hrow.mono (fun _ h => h) (fun _ h => h) (by omega) fun x hx hx' => keep2 x hx' fun e => by have := hMG x hx; omega
    have hsl2 := hrow2.slp (by unfold big; omega)
    obtain ⟨ua, uc, eu, -, -, hel⟩ := SlP.open hsl2
    obtain ⟨hva, hvr, ecs, -⟩ := hEl2
    have b0 := hB2.cell 0 (by omega)
    have e0 : cs[0]'(by omega) = .string (hdR sti).1.1.key := by simp only [ecs]; rfl
    rw [e0] at b0
    refine w_seq ?_
    refine w_cut (fun g H'' => G2 = H'' ∧ g 40 = .bool (badH L (hdR sti)) ∧ g 0 = .pointer (some ⟨p, 0, none⟩) ∧ g 4 = u ∧ g 7 = .pointer (some ⟨G1.size, 0, none⟩) ∧ g 11 = .int .i64 n ∧ g 12 = .int .i64 i) ?_ ?_
    · refine w_reg1 fun K hK => ?_
      cases hok : (hdR sti).1.2 with
      | false =>
        simp (disch := omega) only [↓wD, ↓i_cbs, ↓i_csk, wU, b_and, b_or, b_shl, b_shr, Nat.reduceBEq, reduceCtorEq, Int.reduceEq, Int.reduceLT, Int.reduceLE, Int.reduceNeg, Value.cells, Value.oneCell', Nat.reduceAdd, Nat.reduceEqDiff, fillL, setL, Nat.reduceLeDiff, f0, hok]
        refine hK _ _ ?_
        clear hK K
        repeat (first | with_reducible refine q_n ?_ | with_reducible refine q_e ?_ | with_reducible refine q_r ?_ | with_reducible refine bq_n ?_ | with_reducible refine bq_e ?_ | with_reducible refine bq_r ?_ | with_reducible refine bq_o rfl ?_)
        exact ⟨rfl, (by simp only [ev_tmp, ev_const, upd_apply, Nat.reduceBEq, cond_true, cond_false, badH, hok, Bool.not_false, Bool.true_or]), (by simp only [ev_tmp, ev_const, upd_apply, Nat.reduceBEq, cond_true, cond_false, f0]), (by simp only [ev_tmp, ev_const, upd_apply, Nat.reduceBEq, cond_true, cond_false, f4]), (by simp only [ev_tmp, ev_const, upd_apply, Nat.reduceBEq, cond_true, cond_false, ]), (by simp only [ev_tmp, ev_const, upd_apply, Nat.reduceBEq, cond_true, cond_false, f11]), (by simp only [ev_tmp, ev_const, upd_apply, Nat.reduceBEq, cond_true, cond_false, f12])⟩
      | true =>
        simp (disch := omega) only [↓wD, ↓i_cbs, ↓i_csk, wU, b_and, b_or, b_shl, b_shr, Nat.reduceBEq, reduceCtorEq, Int.reduceEq, Int.reduceLT, Int.reduceLE, Int.reduceNeg, Value.cells, Value.oneCell', Nat.reduceAdd, Nat.reduceEqDiff, fillL, setL, Nat.reduceLeDiff, f0, hok]
        refine w_call (failed_cl hR2) ?_
        rintro _ _ ⟨rfl, rfl⟩
        cases hst : (hdR sti).2.isNone with
        | true =>
          simp (disch := omega) only [↓wD, ↓i_cbs, ↓i_csk, wU, b_and, b_or, b_shl, b_shr, Nat.reduceBEq, reduceCtorEq, Int.reduceEq, Int.reduceLT, Int.reduceLE, Int.reduceNeg, Value.cells, Value.oneCell', Nat.reduceAdd, Nat.reduceEqDiff, fillL, setL, Nat.reduceLeDiff, f0, hst]
          refine hK _ _ ?_
          clear hK K
          repeat (first | with_reducible refine q_n ?_ | with_reducible refine q_e ?_ | with_reducible refine q_r ?_ | with_reducible refine bq_n ?_ | with_reducible refine bq_e ?_ | with_reducible refine bq_r ?_ | with_reducible refine bq_o rfl ?_)
          exact ⟨rfl, (by simp only [ev_tmp, ev_const, upd_apply, Nat.reduceBEq, cond_true, cond_false, badH, hok, hst, Bool.not_true, Bool.false_or, Bool.true_or]), (by simp only [ev_tmp, ev_const, upd_apply, Nat.reduceBEq, cond_true, cond_false, f0]), (by simp only [ev_tmp, ev_const, upd_apply, Nat.reduceBEq, cond_true, cond_false, f4]), (by simp only [ev_tmp, ev_const, upd_apply, Nat.reduceBEq, cond_true, cond_false, ]), (by simp only [ev_tmp, ev_const, upd_apply, Nat.reduceBEq, cond_true, cond_false, f11]), (by simp only [ev_tmp, ev_const, upd_apply, Nat.reduceBEq, cond_true, cond_false, f12])⟩
        | false =>
          by_cases hi0 : i = 0
          · have z1 : ((0 : Int) < (i : Int)) = False := by simp [hi0]
            have z2 : (0 < i) = False := by simp [hi0]
            have eL : L = [] := List.length_eq_zero_iff.1 (by omega)
            simp (disch := omega) only [↓wD, ↓i_cbs, ↓i_csk, wU, b_and, b_or, b_shl, b_shr, Nat.reduceBEq, reduceCtorEq, Int.reduceEq, Int.reduceLT, Int.reduceLE, Int.reduceNeg, Value.cells, Value.oneCell', Nat.reduceAdd, Nat.reduceEqDiff, fillL, setL, Nat.reduceLeDiff, f0, hst, z1, z2]
            refine hK _ _ ?_
            clear hK K
            repeat (first | with_reducible refine q_n ?_ | with_reducible refine q_e ?_ | with_reducible refine q_r ?_ | with_reducible refine bq_n ?_ | with_reducible refine bq_e ?_ | with_reducible refine bq_r ?_ | with_reducible refine bq_o rfl ?_)
            refine ⟨rfl, ?_, (by simp only [ev_tmp, ev_const, upd_apply, Nat.reduceBEq, cond_true, cond_false, f0]), (by simp only [ev_tmp, ev_const, upd_apply, Nat.reduceBEq, cond_true, cond_false, f4]), (by simp only [ev_tmp, ev_const, upd_apply, Nat.reduceBEq, cond_true, cond_false, ]), (by simp only [ev_tmp, ev_const, upd_apply, Nat.reduceBEq, cond_true, cond_false, f11]), (by simp only [ev_tmp, ev_const, upd_apply, Nat.reduceBEq, cond_true, cond_false, f12])⟩
            simp only [ev_tmp, ev_const, upd_apply, Nat.reduceBEq, cond_true, cond_false, badH, hok, hst, eL, List.getLast?_nil, Bool.not_true, Bool.false_or]
          · obtain ⟨j, hj⟩ : ∃ j, i = j + 1 := ⟨i - 1, by omega⟩
            have hjl : j < L.length := by omega
            obtain ⟨bj, oj, ebj, -, csj, hcsj, hej⟩ := hel j hjl
            obtain ⟨ya, yr, eyj, -⟩ := hej
            rw [eyj] at hcsj
            have cj := (rdn7 hcsj).1
            have z1 : ((0 : Int) < (i : Int)) = True := by simp; omega
            have z2 : (0 < i) = True := by simp; omega
            have z3 : (i : Int) - 1 = (j : Int) := by omega
            rw [eu] at f4
            subst ebj
            simp (disch := omega) only [↓wD, ↓i_cbs, ↓i_csk, wU, b_and, b_or, b_shl, b_shr, Nat.reduceBEq, reduceCtorEq, Int.reduceEq, Int.reduceLT, Int.reduceLE, Int.reduceNeg, Value.cells, Value.oneCell', Nat.reduceAdd, Nat.reduceEqDiff, fillL, setL, Nat.reduceLeDiff, f0, f4, hst, z1, z2, z3, hjl, cj, b0]
            refine hK _ _ ?_
            clear hK K
            repeat (first | with_reducible refine q_n ?_ | with_reducible refine q_e ?_ | with_reducible refine q_r ?_ | with_reducible refine bq_n ?_ | with_reducible refine bq_e ?_ | with_reducible refine bq_r ?_ | with_reducible refine bq_o rfl ?_)
            refine ⟨rfl, ?_, (by simp only [ev_tmp, ev_const, upd_apply, Nat.reduceBEq, cond_true, cond_false, f0]), (by simp only [ev_tmp, ev_const, upd_apply, Nat.reduceBEq, cond_true, cond_false, f4, eu]), (by simp only [ev_tmp, ev_const, upd_apply, Nat.reduceBEq, cond_true, cond_false, ]), (by simp only [ev_tmp, ev_const, upd_apply, Nat.reduceBEq, cond_true, cond_false, f11]), (by simp only [ev_tmp, ev_const, upd_apply, Nat.reduceBEq, cond_true, cond_false, f12])⟩
            have eL : L.getLast? = some L[j] := by rw [List.getLast?_eq_getElem?, hLi, hj]; simp
            simp only [ev_tmp, ev_const, upd_apply, Nat.reduceBEq, cond_true, cond_false, badH, hok, hst, eL, Bool.not_true, Bool.false_or]
    rintro g H'' ⟨rfl, g40, g0, g4, g7, g11, g12⟩
    have e : n - i = (n - (i + 1)) + 1 := by omega
    rw [e, holdsL] at hD
    cases hbad : badH L (hdR sti) with
    | true =>
      rw [hbad] at g40 hD
      simp only [if_true] at hD
      refine w_true (by simp only [ev_tmp, ev_const, upd_apply, Nat.reduceBEq, cond_true, cond_false, Bool.not_true, Bool.not_false, g40]) ?_
      refine w_reg fun K hK => ?_
      simp (disch := omega) only [↓wD, ↓i_cbs, ↓i_csk, wU, b_and, b_or, b_shl, b_shr, Nat.reduceBEq, reduceCtorEq, Int.reduceEq, Int.reduceLT, Int.reduceLE, Int.reduceNeg, Value.cells, Value.oneCell', Nat.reduceAdd, Nat.reduceEqDiff, fillL, setL, Nat.reduceLeDiff, ]
      refine hK _ _ ?_
      clear hK K
      refine w_ret ?_
      repeat (first | with_reducible refine q_n ?_ | with_reducible refine q_e ?_ | with_reducible refine q_r ?_ | with_reducible refine bq_n ?_ | with_reducible refine bq_e ?_ | with_reducible refine bq_r ?_ | with_reducible refine bq_o rfl ?_)
      refine ret2 (by (try simp only [ev_tmp, ev_const, upd_apply, Nat.reduceBEq, cond_true, cond_false, ]); rfl) (by (try simp only [ev_tmp, ev_const, upd_apply, Nat.reduceBEq, cond_true, cond_false, ]); rfl) ?_
      rw [← hD]
      exact ⟨⟨⟨by omega, fun x hx hxp => by rw [keep2 x (by omega) hxp, hkA.2 x hx hxp]⟩, gv1, hR2⟩, _, fun _ => False, rfl, fun _ h => h.elim, by refine ⟨Nat.zero_le _, .inl ⟨_, rfl, rfl⟩⟩⟩
    | false =>
      rw [hbad] at g40 hD
      simp only [Bool.false_eq_true, if_false] at hD
      refine w_false (by simp only [ev_tmp, ev_const, upd_apply, Nat.reduceBEq, cond_true, cond_false, Bool.not_true, Bool.not_false, g40]) ?_
      refine w_skip ?_
      repeat (first | with_reducible refine q_n ?_ | with_reducible refine q_e ?_ | with_reducible refine q_r ?_ | with_reducible refine bq_n ?_ | with_reducible refine bq_e ?_ | with_reducible refine bq_r ?_ | with_reducible refine bq_o rfl ?_)
      have hrd2 : rdn G2 G1.size 0 7 = some cs := by have := hB2.rd; rwa [hl7] at this
      have hE3 : Ext G2 (G2.push (.cells cs.toArray 35)) := (Ext.refl _).push _
      have hrd3 : rdn (G2.push (.cells cs.toArray 35)) G2.size 0 7 = some cs := by
        rw [rdn_new G2 cs 35 0 7 (by omega), List.drop_zero, List.take_of_length_le (by omega)]
      have hs3 : (G2.push (.cells cs.toArray 35)).size = G2.size + 1 := by simp
      obtain ⟨css, hrw, hcl, hcel⟩ := hrow2
      rw [eu, ← hcl] at g4 hrw
      refine w_reg fun K hK => ?_
      rw [ecs] at hrd2
      simp (disch := omega) only [↓wD, ↓i_cbs, ↓i_csk, wU, b_and, b_or, b_shl, b_shr, Nat.reduceBEq, reduceCtorEq, Int.reduceEq, Int.reduceLT, Int.reduceLE, Int.reduceNeg, Value.cells, Value.oneCell', Nat.reduceAdd, Nat.reduceEqDiff, fillL, setL, Nat.reduceLeDiff, g4, g7, hrd2, as_one]
      rw [← ecs]
      refine app_one (hrw.mono (M' := M') (fun _ h => h) hE3.1 fun x hx hx' => hE3.2 x hx') (fun x hx => by have := hMG x (.inl hx); omega) ⟨hl7, hEl.one⟩ rfl (by decide) (by omega) ?_ rfl
      intro v8 H8 hrow8 hk8 hs8
      simp (disch := omega) only [↓wD, ↓i_cbs, ↓i_csk, wU, b_and, b_or, b_shl, b_shr, Nat.reduceBEq, reduceCtorEq, Int.reduceEq, Int.reduceLT, Int.reduceLE, Int.reduceNeg, Value.cells, Value.oneCell', Nat.reduceAdd, Nat.reduceEqDiff, fillL, setL, Nat.reduceLeDiff, ]
      refine hK _ _ ?_
      clear hK K
      repeat (first | with_reducible refine q_n ?_ | with_reducible refine q_e ?_ | with_reducible refine q_r ?_ | with_reducible refine bq_n ?_ | with_reducible refine bq_e ?_ | with_reducible refine bq_r ?_ | with_reducible refine bq_o rfl ?_)
      refine w_reg1 fun K hK => ?_
      simp (disch := omega) only [↓wD, ↓i_cbs, ↓i_csk, wU, b_and, b_or, b_shl, b_shr, Nat.reduceBEq, reduceCtorEq, Int.reduceEq, Int.reduceLT, Int.reduceLE, Int.reduceNeg, Value.cells, Value.oneCell', Nat.reduceAdd, Nat.reduceEqDiff, fillL, setL, Nat.reduceLeDiff, g12]
      refine hK _ _ ?_
      clear hK K
      repeat (first | with_reducible refine q_n ?_ | with_reducible refine q_e ?_ | with_reducible refine q_r ?_ | with_reducible refine bq_n ?_ | with_reducible refine bq_e ?_ | with_reducible refine bq_r ?_ | with_reducible refine bq_o rfl ?_)
      have hs8' := hk8.1
      have keep8 : ∀ x, x < G2.size → ¬ M' x → H8[x]? = G2[x]? := fun x hx hm => by rw [hk8.2 x (by omega) hm, hE3.2 x hx]
      have hpM : ¬ M' p := fun hm => by have := hMG p (.inl hm); omega
      have hGn2 : ∀ x, Gn x → ¬ M' x := fun x hx hm => by have := hMG x (.inl hm); have := hGn x hx; omega
      refine ⟨n - (i + 1), by omega, (by simp only [ev_tmp, ev_const, upd_apply, Nat.reduceBEq, cond_true, cond_false, g0]), (by simp only [ev_tmp, ev_const, upd_apply, Nat.reduceBEq, cond_true, cond_false, g11]), i + 1, L ++ [(hdR sti).1.1], (hdR sti).2, gv1, v8, fun x => (M' x ∨ x = (G2.push (.cells cs.toArray 35)).size) ∧ x < H8.size, fun x => G' x ∨ Gn x, (by simp only [ev_tmp, ev_const, upd_apply, Nat.reduceBEq, cond_true, cond_false, ]), by omega, rfl, (by simp only [ev_tmp, ev_const, upd_apply, Nat.reduceBEq, cond_true, cond_false, ]), ?_, ?_, ?_, ?_, ?_, by simp [hLi], hD⟩
      · exact ⟨by omega, fun x hx hxp => by rw [keep8 x (by omega) (fun hm => by have := hMG x (.inl hm); omega), keep2 x (by omega) hxp, hkA.2 x hx hxp]⟩
      · have hlt := h.lt
        exact hR2.keep (by omega) fun x hx hsx => keep8 x hx fun hm => by
          rcases hsx with h1 | h1
          · have := hlt x h1; have := hMG x (.inl hm); omega
          · subst h1; exact hpM hm
      · rintro x (⟨hx | hx, hx2⟩ | hx | hx)
        · have := hMG x (.inl hx); omega
        · omega
        · have := hMG x (.inr hx); omega
        · have := hGn x hx; omega
      · rintro x ⟨hx | hx, hx2⟩ (hy | hy)
        · exact hdis x hx hy
        · exact hGn2 x hy hx
        · have := hMG x (.inr hy); omega
        · have := hGn x hy; omega
      · refine ⟨css ++ [cs], hrow8.lt, by simp [hcl], fun j hj hl => ?_⟩
        by_cases hjl : j < css.length
        · rw [List.getElem_append_left hjl, List.getElem_append_left (by omega)]
          exact (hcel j hjl (by omega)).mono (fun _ h => .inl h) fun x hx hx' => keep8 x hx' fun hm => hdis x hm hx
        · simp only [List.length_append, List.length_cons, List.length_nil] at hj hl
          rw [List.getElem_append_right (by omega), List.getElem_append_right (by omega)]
          have e1 : j - css.length = 0 := by omega
          have e2 : j - L.length = 0 := by omega
          simp only [e1, e2, List.getElem_cons_zero]
          exact hEl.mono (fun _ h => .inr h) fun x hx hx' => by rw [keep8 x (by omega) (hGn2 x hx), keep12 x hx']
  · refine w_reg fun K hK => ?_
    simp (disch := omega) only [↓wD, ↓i_cbs, ↓i_csk, wU, b_and, b_or, b_shl, b_shr, Nat.reduceBEq, reduceCtorEq, Int.reduceEq, Int.reduceLT, Int.reduceLE, Int.reduceNeg, Value.cells, Value.oneCell', Nat.reduceAdd, Nat.reduceEqDiff, fillL, setL, Nat.reduceLeDiff, f11, f12, hil]
    refine hK _ _ ?_
    clear hK K
    refine w_seq ?_
    refine w_false (by simp only [ev_tmp, ev_const, upd_apply, Nat.reduceBEq, cond_true, cond_false, Bool.not_true, Bool.not_false, ]) ?_
    refine w_exit ?_
    repeat (first | with_reducible refine q_n ?_ | with_reducible refine q_e ?_ | with_reducible refine q_r ?_ | with_reducible refine bq_n ?_ | with_reducible refine bq_e ?_ | with_reducible refine bq_r ?_ | with_reducible refine bq_o rfl ?_)
    have e : n - i = 0 := by omega
    rw [e, holdsL] at hD
    rw [← hD]
    refine w_reg fun K hK => ?_
    simp (disch := omega) only [↓wD, ↓i_cbs, ↓i_csk, wU, b_and, b_or, b_shl, b_shr, Nat.reduceBEq, reduceCtorEq, Int.reduceEq, Int.reduceLT, Int.reduceLE, Int.reduceNeg, Value.cells, Value.oneCell', Nat.reduceAdd, Nat.reduceEqDiff, fillL, setL, Nat.reduceLeDiff, f0, f4]
    refine w_call (failed_cl hR) ?_
    rintro _ _ ⟨rfl, rfl⟩
    simp (disch := omega) only [↓wD, ↓i_cbs, ↓i_csk, wU, b_and, b_or, b_shl, b_shr, Nat.reduceBEq, reduceCtorEq, Int.reduceEq, Int.reduceLT, Int.reduceLE, Int.reduceNeg, Value.cells, Value.oneCell', Nat.reduceAdd, Nat.reduceEqDiff, fillL, setL, Nat.reduceLeDiff, ]
    refine hK _ _ ?_
    clear hK K
    refine w_ret ?_
    repeat (first | with_reducible refine q_n ?_ | with_reducible refine q_e ?_ | with_reducible refine q_r ?_ | with_reducible refine bq_n ?_ | with_reducible refine bq_e ?_ | with_reducible refine bq_r ?_ | with_reducible refine bq_o rfl ?_)
    refine ret2 (by (try simp only [ev_tmp, ev_const, upd_apply, Nat.reduceBEq, cond_true, cond_false, ]); rfl) (by (try simp only [ev_tmp, ev_const, upd_apply, Nat.reduceBEq, cond_true, cond_false, ]); rfl) ?_
    exact ⟨⟨hkA, vi, hR⟩, _, _, rfl, fun x hx => hMG x hx, by rw [f4]; exact hrow.slp (by unfold big; omega)⟩
end Go.WK
/-
  SameHolds and Take.
-/
namespace Go.WK
open Go Go.Proofs

theorem SameHolds_cl {S S' : Nat → Prop} {H : Hp} {v u : Value} {l m : List Hd} (hv : HdSl S H v l) (hu : HdSl S' H u m) : Cl Tryz.prog 31 [v, u] H fun r H' => r = .bool (decide (l = m)) ∧ Ext H H' := by
  refine cl_of mixed c_watershedkit_SameHolds (Nat.le_of_ble_eq_true rfl) ?_
  simp only [fwp, ir_watershedkit_SameHolds, argF, Nat.reduceAdd]
  obtain ⟨a, c, rfl, hc, hl, hel⟩ := SlP.open hv
  obtain ⟨a', c', rfl, hc', hl', hel'⟩ := SlP.open hu
  clear hv hu
  refine w_reg fun K hK => ?_
  simp (disch := omega) only [↓wD, ↓i_cbs, ↓i_csk, wU, b_and, b_or, b_shl, b_shr, Nat.reduceBEq, reduceCtorEq, Int.reduceEq, Int.reduceLT, Int.reduceLE, Int.reduceNeg, Value.cells, Value.oneCell', Nat.reduceAdd, Nat.reduceEqDiff, fillL, setL, Nat.reduceLeDiff, ]
  refine hK _ _ ?_
  clear hK K
  refine w_seq (w_seq ?_)
  by_cases hlen : l.length = m.length
  · refine w_reg fun K hK => ?_
    simp (disch := omega) only [↓wD, ↓i_cbs, ↓i_csk, wU, b_and, b_or, b_shl, b_shr, Nat.reduceBEq, reduceCtorEq, Int.reduceEq, Int.reduceLT, Int.reduceLE, Int.reduceNeg, Value.cells, Value.oneCell', Nat.reduceAdd, Nat.reduceEqDiff, fillL, setL, Nat.reduceLeDiff, hlen]
    refine hK _ _ ?_
    clear hK K
    refine w_false (by simp only [ev_tmp, ev_const, upd_apply, Nat.reduceBEq, cond_true, cond_false, Bool.not_true, Bool.not_false, ]) ?_
    refine w_skip ?_
    repeat (first | with_reducible refine q_n ?_ | with_reducible refine q_e ?_ | with_reducible refine q_r ?_ | with_reducible refine bq_n ?_ | with_reducible refine bq_e ?_ | with_reducible refine bq_r ?_ | with_reducible refine bq_o rfl ?_)
    refine w_seq (w_seq ?_)
    refine w_reg fun K hK => ?_
    simp (disch := omega) only [↓wD, ↓i_cbs, ↓i_csk, wU, b_and, b_or, b_shl, b_shr, Nat.reduceBEq, reduceCtorEq, Int.reduceEq, Int.reduceLT, Int.reduceLE, Int.reduceNeg, Value.cells, Value.oneCell', Nat.reduceAdd, Nat.reduceEqDiff, fillL, setL, Nat.reduceLeDiff, ]
    refine hK _ _ ?_
    clear hK K
    refine w_blk (w_loop (fun n f H' => Ext H H' ∧ f 0 = .slice a l.length c ∧ f 1 = .slice a' m.length c' ∧ ∃ (i : Nat), f 5 = .int .i64 i ∧ i ≤ l.length ∧ (∀ j (hj : j < l.length) (hm : j < m.length), j < i → l[j] = m[j]) ∧ n = l.length - i) _ ⟨Ext.refl _, by simp only [ev_tmp, ev_const, upd_apply, Nat.reduceBEq, cond_true, cond_false, hlen], by simp only [ev_tmp, ev_const, upd_apply, Nat.reduceBEq, cond_true, cond_false], 0, rfl, Nat.zero_le _, fun j hj hm h => by omega, rfl⟩ ?_)
    rintro n f H' ⟨hE, f0, f1, i, f5, hi, hsame, rfl⟩
    refine w_seq (w_seq ?_)
    by_cases hlt : i < l.length
    · have hlt' : i < m.length := by omega
      obtain ⟨b, o, rfl, hS, cs, hcs, he⟩ := hel i hlt
      obtain ⟨b', o', rfl, hS', cs', hcs', he'⟩ := hel' i hlt'
      have hcs1 := rdn_ext hE hcs
      have hcs1' := rdn_ext hE hcs'
      refine w_reg fun K hK => ?_
      simp (disch := omega) only [↓wD, ↓i_cbs, ↓i_csk, wU, b_and, b_or, b_shl, b_shr, Nat.reduceBEq, reduceCtorEq, Int.reduceEq, Int.reduceLT, Int.reduceLE, Int.reduceNeg, Value.cells, Value.oneCell', Nat.reduceAdd, Nat.reduceEqDiff, fillL, setL, Nat.reduceLeDiff, f0, f5, hlt]
      refine hK _ _ ?_
      clear hK K
      refine w_true (by simp only [ev_tmp, ev_const, upd_apply, Nat.reduceBEq, cond_true, cond_false, Bool.not_true, Bool.not_false, ]) ?_
      refine w_skip ?_
      repeat (first | with_reducible refine q_n ?_ | with_reducible refine q_e ?_ | with_reducible refine q_r ?_ | with_reducible refine bq_n ?_ | with_reducible refine bq_e ?_ | with_reducible refine bq_r ?_ | with_reducible refine bq_o rfl ?_)
      refine w_seq (w_blk ?_)
      refine w_seq ?_
      refine w_reg fun K hK => ?_
      simp (disch := omega) only [↓wD, ↓i_cbs, ↓i_csk, wU, b_and, b_or, b_shl, b_shr, Nat.reduceBEq, reduceCtorEq, Int.reduceEq, Int.reduceLT, Int.reduceLE, Int.reduceNeg, Value.cells, Value.oneCell', Nat.reduceAdd, Nat.reduceEqDiff, fillL, setL, Nat.reduceLeDiff, f0, f1, f5, hlt, hlt', hcs1, hcs1']
      refine w_call (SameHold_cl (he.ext hE) (he'.ext hE)) ?_
      rintro _ H2 ⟨rfl, hE2⟩
      by_cases heq : l[i] = m[i]
      · simp (disch := omega) only [↓wD, ↓i_cbs, ↓i_csk, wU, b_and, b_or, b_shl, b_shr, Nat.reduceBEq, reduceCtorEq, Int.reduceEq, Int.reduceLT, Int.reduceLE, Int.reduceNeg, Value.cells, Value.oneCell', Nat.reduceAdd, Nat.reduceEqDiff, fillL, setL, Nat.reduceLeDiff, heq, decide_true]
        refine hK _ _ ?_
        clear hK K
        refine w_false (by simp only [ev_tmp, ev_const, upd_apply, Nat.reduceBEq, cond_true, cond_false, Bool.not_true, Bool.not_false, ]) ?_
        refine w_skip ?_
        repeat (first | with_reducible refine q_n ?_ | with_reducible refine q_e ?_ | with_reducible refine q_r ?_ | with_reducible refine bq_n ?_ | with_reducible refine bq_e ?_ | with_reducible refine bq_r ?_ | with_reducible refine bq_o rfl ?_)
        refine w_reg1 fun K hK => ?_
        simp (disch := omega) only [↓wD, ↓i_cbs, ↓i_csk, wU, b_and, b_or, b_shl, b_shr, Nat.reduceBEq, reduceCtorEq, Int.reduceEq, Int.reduceLT, Int.reduceLE, Int.reduceNeg, Value.cells, Value.oneCell', Nat.reduceAdd, Nat.reduceEqDiff, fillL, setL, Nat.reduceLeDiff, f5]
        refine hK _ _ ?_
        clear hK K
        repeat (first | with_reducible refine q_n ?_ | with_reducible refine q_e ?_ | with_reducible refine q_r ?_ | with_reducible refine bq_n ?_ | with_reducible refine bq_e ?_ | with_reducible refine bq_r ?_ | with_reducible refine bq_o rfl ?_)
        refine ⟨l.length - (i + 1), by omega, hE.trans hE2, (by simp only [ev_tmp, ev_const, upd_apply, Nat.reduceBEq, cond_true, cond_false, f0]), (by simp only [ev_tmp, ev_const, upd_apply, Nat.reduceBEq, cond_true, cond_false, f1]), i + 1, (by simp only [ev_tmp, ev_const, upd_apply, Nat.reduceBEq, cond_true, cond_false, ]), by omega, fun j hj hm h => ?_, rfl⟩
        by_cases hji : j = i
        · subst hji; exact heq
        · exact hsame j hj hm (by omega)
      · simp (disch := omega) only [↓wD, ↓i_cbs, ↓i_csk, wU, b_and, b_or, b_shl, b_shr, Nat.reduceBEq, reduceCtorEq, Int.reduceEq, Int.reduceLT, Int.reduceLE, Int.reduceNeg, Value.cells, Value.oneCell', Nat.reduceAdd, Nat.reduceEqDiff, fillL, setL, Nat.reduceLeDiff, heq, decide_false]
        refine hK _ _ ?_
        clear hK K
        refine w_true (by simp only [ev_tmp, ev_const, upd_apply, Nat.reduceBEq, cond_true, cond_false, Bool.not_true, Bool.not_false, ]) ?_
        refine w_reg fun K hK => ?_
        simp (disch := omega) only [↓wD, ↓i_cbs, ↓i_csk, wU, b_and, b_or, b_shl, b_shr, Nat.reduceBEq, reduceCtorEq, Int.reduceEq, Int.reduceLT, Int.reduceLE, Int.reduceNeg, Value.cells, Value.oneCell', Nat.reduceAdd, Nat.reduceEqDiff, fillL, setL, Nat.reduceLeDiff, ]
        refine hK _ _ ?_
        clear hK K
        refine w_ret ?_
        repeat (first | with_reducible refine q_n ?_ | with_reducible refine q_e ?_ | with_reducible refine q_r ?_ | with_reducible refine bq_n ?_ | with_reducible refine bq_e ?_ | with_reducible refine bq_r ?_ | with_reducible refine bq_o rfl ?_)
        refine ret1 (by (try simp only [ev_tmp, ev_const, upd_apply, Nat.reduceBEq, cond_true, cond_false, ]); rfl) ?_
        refine ⟨?_, hE.trans hE2⟩
        have : ¬ l = m := fun e => heq (by subst e; rfl)
        simp [this]
    · refine w_reg fun K hK => ?_
      simp (disch := omega) only [↓wD, ↓i_cbs, ↓i_csk, wU, b_and, b_or, b_shl, b_shr, Nat.reduceBEq, reduceCtorEq, Int.reduceEq, Int.reduceLT, Int.reduceLE, Int.reduceNeg, Value.cells, Value.oneCell', Nat.reduceAdd, Nat.reduceEqDiff, fillL, setL, Nat.reduceLeDiff, f0, f5, hlt]
      refine hK _ _ ?_
      clear hK K
      refine w_false (by simp only [ev_tmp, ev_const, upd_apply, Nat.reduceBEq, cond_true, cond_false, Bool.not_true, Bool.not_false, ]) ?_
      refine w_exit ?_
      repeat (first | with_reducible refine q_n ?_ | with_reducible refine q_e ?_ | with_reducible refine q_r ?_ | with_reducible refine bq_n ?_ | with_reducible refine bq_e ?_ | with_reducible refine bq_r ?_ | with_reducible refine bq_o rfl ?_)
      refine w_reg fun K hK => ?_
      simp (disch := omega) only [↓wD, ↓i_cbs, ↓i_csk, wU, b_and, b_or, b_shl, b_shr, Nat.reduceBEq, reduceCtorEq, Int.reduceEq, Int.reduceLT, Int.reduceLE, Int.reduceNeg, Value.cells, Value.oneCell', Nat.reduceAdd, Nat.reduceEqDiff, fillL, setL, Nat.reduceLeDiff, ]
      refine hK _ _ ?_
      clear hK K
      refine w_ret ?_
      repeat (first | with_reducible refine q_n ?_ | with_reducible refine q_e ?_ | with_reducible refine q_r ?_ | with_reducible refine bq_n ?_ | with_reducible refine bq_e ?_ | with_reducible refine bq_r ?_ | with_reducible refine bq_o rfl ?_)
      refine ret1 (by (try simp only [ev_tmp, ev_const, upd_apply, Nat.reduceBEq, cond_true, cond_false, ]); rfl) ?_
      have : l = m := List.ext_getElem hlen fun j hj hm => hsame j hj hm (by omega)
      refine ⟨?_, hE⟩
      simp [this]
  · have hlen' : ((l.length : Int) = (m.length : Int)) = False := by simp; omega
    refine w_reg fun K hK => ?_
    simp (disch := omega) only [↓wD, ↓i_cbs, ↓i_csk, wU, b_and, b_or, b_shl, b_shr, Nat.reduceBEq, reduceCtorEq, Int.reduceEq, Int.reduceLT, Int.reduceLE, Int.reduceNeg, Value.cells, Value.oneCell', Nat.reduceAdd, Nat.reduceEqDiff, fillL, setL, Nat.reduceLeDiff, hlen, hlen']
    refine hK _ _ ?_
    clear hK K
    refine w_true (by simp only [ev_tmp, ev_const, upd_apply, Nat.reduceBEq, cond_true, cond_false, Bool.not_true, Bool.not_false, ]) ?_
    refine w_reg fun K hK => ?_
    simp (disch := omega) only [↓wD, ↓i_cbs, ↓i_csk, wU, b_and, b_or, b_shl, b_shr, Nat.reduceBEq, reduceCtorEq, Int.reduceEq, Int.reduceLT, Int.reduceLE, Int.reduceNeg, Value.cells, Value.oneCell', Nat.reduceAdd, Nat.reduceEqDiff, fillL, setL, Nat.reduceLeDiff, ]
    refine hK _ _ ?_
    clear hK K
    refine w_ret ?_
    repeat (first | with_reducible refine q_n ?_ | with_reducible refine q_e ?_ | with_reducible refine q_r ?_ | with_reducible refine bq_n ?_ | with_reducible refine bq_e ?_ | with_reducible refine bq_r ?_ | with_reducible refine bq_o rfl ?_)
    refine ret1 (by (try simp only [ev_tmp, ev_const, upd_apply, Nat.reduceBEq, cond_true, cond_false, ]); rfl) ?_
    refine ⟨?_, Ext.refl _⟩
    have : ¬ l = m := fun e => hlen (by rw [e])
    simp [this]
/-- What Take asks. -/
theorem take_fn {M G : Nat → Prop} {H : Hp} {k : Nat} {lo hi : ByteArray} (hk0 : cell H k 0 = some (.string lo)) (hk1 : cell H k (0 + 1) = some (.string hi)) (h1 : Sz lo) (h2 : Sz hi) (hM : ¬ M k) : FnR Tryz.prog M G H (.func (.func 85) #[] #[.pointer (some ⟨k, 0, none⟩)]) fun h => spHas lo hi h.key := by
  refine ⟨_, _, _, rfl, fun H' hkeep cs a he => ?_⟩
  obtain ⟨va, vr, rfl, -, -, -, h3, -⟩ := he
  have hb := hkeep.2 k (cell_lt hk0) hM
  have hk0' := (cell_block hb 0).trans hk0
  have hk1' := (cell_block hb (0 + 1)).trans hk1
  have hlt := cell_lt hk0'
  show Cl _ _ [.agg _, .pointer _] _ _
  refine cl_of mixed c_holds_Holds_Take_1 (Nat.le_of_ble_eq_true rfl) ?_
  simp only [fwp, ir_holds_Holds_Take_1, argF, Nat.reduceAdd]
  refine w_reg fun K hK => ?_
  simp (disch := omega) only [↓wD, ↓i_cbs, ↓i_csk, wU, b_and, b_or, b_shl, b_shr, Nat.reduceBEq, reduceCtorEq, Int.reduceEq, Int.reduceLT, Int.reduceLE, Int.reduceNeg, Value.cells, Value.oneCell', Nat.reduceAdd, Nat.reduceEqDiff, fillL, setL, Nat.reduceLeDiff, ]
  refine hK _ _ ?_
  clear hK K
  refine w_reg fun K hK => ?_
  simp (disch := omega) only [↓wD, ↓i_cbs, ↓i_csk, wU, b_and, b_or, b_shl, b_shr, Nat.reduceBEq, reduceCtorEq, Int.reduceEq, Int.reduceLT, Int.reduceLE, Int.reduceNeg, Value.cells, Value.oneCell', Nat.reduceAdd, Nat.reduceEqDiff, fillL, setL, Nat.reduceLeDiff, hk0', hk1']
  refine w_call (spHas_cl lo hi a.key h1 h2 h3) ?_
  rintro _ H1 ⟨rfl, hE⟩
  simp (disch := omega) only [↓wD, ↓i_cbs, ↓i_csk, wU, b_and, b_or, b_shl, b_shr, Nat.reduceBEq, reduceCtorEq, Int.reduceEq, Int.reduceLT, Int.reduceLE, Int.reduceNeg, Value.cells, Value.oneCell', Nat.reduceAdd, Nat.reduceEqDiff, fillL, setL, Nat.reduceLeDiff, ]
  refine hK _ _ ?_
  clear hK K
  refine w_ret ?_
  repeat (first | with_reducible refine q_n ?_ | with_reducible refine q_e ?_ | with_reducible refine q_r ?_ | with_reducible refine bq_n ?_ | with_reducible refine bq_e ?_ | with_reducible refine bq_r ?_ | with_reducible refine bq_o rfl ?_)
  refine ret1 (by (try simp only [ev_tmp, ev_const, upd_apply, Nat.reduceBEq, cond_true, cond_false, ]); rfl) ?_
  refine ⟨rfl, ?_⟩
  repeat (first | exact Ext.refl _ | assumption | (refine Ext.trans ?_ (by assumption)) | refine Ext.push ?_ _ | refine Ext.putc ?_ (by first | omega | (simp only [Array.size_push, putc_size]; omega)) _ _)
theorem Take_cl {M G : Nat → Prop} {H : Hp} {p : Nat} {L : List Hd} {v : Value} (lo hi : ByteArray) (hT : Tab M G H p L v) (hs : Sm L) (h1 : Sz lo) (h2 : Sz hi) : Cl Tryz.prog 35 [.pointer (some ⟨p, 0, none⟩), .agg #[.string lo, .string hi]] H fun r H' => FreshIn H.size H' r (L.filter fun h => spHas lo hi h.key) ∧ KeepOn (fun x => ¬ M x ∧ x ≠ p) H H' ∧ ∃ v', Tab M G H' p (L.filter fun h => !spHas lo hi h.key) v' := by
  refine cl_of mixed c_holds_Holds_Take (Nat.le_of_ble_eq_true rfl) ?_
  simp only [fwp, ir_holds_Holds_Take, argF, Nat.reduceAdd]
  refine w_reg fun K hK => ?_
  simp (disch := omega) only [↓wD, ↓i_cbs, ↓i_csk, wU, b_and, b_or, b_shl, b_shr, Nat.reduceBEq, reduceCtorEq, Int.reduceEq, Int.reduceLT, Int.reduceLE, Int.reduceNeg, Value.cells, Value.oneCell', Nat.reduceAdd, Nat.reduceEqDiff, fillL, setL, Nat.reduceLeDiff, ]
  refine hK _ _ ?_
  clear hK K
  generalize hH0 : H.push (.cells #[.string lo, .string hi] 31) = H0
  have hE0 : Ext H H0 := by subst hH0; exact (Ext.refl _).push _
  have hc : rdn H0 H.size 0 2 = some [.string lo, .string hi] := by subst hH0; exact rdn_new H [_, _] 31 0 2 (Nat.le_refl _)
  obtain ⟨c0, c1⟩ := rdn2 hc
  clear hH0
  have hT0 := hT.ext hE0
  refine w_seq (w_seq ?_)
  refine w_reg fun K hK => ?_
  simp (disch := omega) only [↓wD, ↓i_cbs, ↓i_csk, wU, b_and, b_or, b_shl, b_shr, Nat.reduceBEq, reduceCtorEq, Int.reduceEq, Int.reduceLT, Int.reduceLE, Int.reduceNeg, Value.cells, Value.oneCell', Nat.reduceAdd, Nat.reduceEqDiff, fillL, setL, Nat.reduceLeDiff, ]
  refine w_call (there_cl hT0.c1') ?_
  rintro _ H1 ⟨rfl, e⟩
  subst e
  simp (disch := omega) only [↓wD, ↓i_cbs, ↓i_csk, wU, b_and, b_or, b_shl, b_shr, Nat.reduceBEq, reduceCtorEq, Int.reduceEq, Int.reduceLT, Int.reduceLE, Int.reduceNeg, Value.cells, Value.oneCell', Nat.reduceAdd, Nat.reduceEqDiff, fillL, setL, Nat.reduceLeDiff, ]
  refine hK _ _ ?_
  clear hK K
  refine w_false (by simp only [ev_tmp, ev_const, upd_apply, Nat.reduceBEq, cond_true, cond_false, Bool.not_true, Bool.not_false, ]) ?_
  refine w_skip ?_
  repeat (first | with_reducible refine q_n ?_ | with_reducible refine q_e ?_ | with_reducible refine q_r ?_ | with_reducible refine bq_n ?_ | with_reducible refine bq_e ?_ | with_reducible refine bq_r ?_ | with_reducible refine bq_o rfl ?_)
  refine w_reg fun K hK => ?_
  simp (disch := omega) only [↓wD, ↓i_cbs, ↓i_csk, wU, b_and, b_or, b_shl, b_shr, Nat.reduceBEq, reduceCtorEq, Int.reduceEq, Int.reduceLT, Int.reduceLE, Int.reduceNeg, Value.cells, Value.oneCell', Nat.reduceAdd, Nat.reduceEqDiff, fillL, setL, Nat.reduceLeDiff, ]
  refine w_call (less_cl hT0 hs (take_fn (M := M) (G := G) c0 c1 h1 h2 (fun hm => by have := hT.lt _ (.inl hm); omega))) ?_
  rintro _ H2 ⟨hF, hkp, hT2⟩
  simp (disch := omega) only [↓wD, ↓i_cbs, ↓i_csk, wU, b_and, b_or, b_shl, b_shr, Nat.reduceBEq, reduceCtorEq, Int.reduceEq, Int.reduceLT, Int.reduceLE, Int.reduceNeg, Value.cells, Value.oneCell', Nat.reduceAdd, Nat.reduceEqDiff, fillL, setL, Nat.reduceLeDiff, ]
  refine hK _ _ ?_
  clear hK K
  refine w_ret ?_
  repeat (first | with_reducible refine q_n ?_ | with_reducible refine q_e ?_ | with_reducible refine q_r ?_ | with_reducible refine bq_n ?_ | with_reducible refine bq_e ?_ | with_reducible refine bq_r ?_ | with_reducible refine bq_o rfl ?_)
  refine ret1 (by (try simp only [ev_tmp, ev_const, upd_apply, Nat.reduceBEq, cond_true, cond_false, ]); rfl) ?_
  refine ⟨?_, (hE0.on _).trans hkp, hT2⟩
  obtain ⟨M2, G2, h1, h2, h3⟩ := hF
  exact ⟨M2, G2, h1, fun x hx => ⟨Nat.le_trans hE0.size (h2 x hx).1, (h2 x hx).2⟩, h3⟩
end Go.WK
/-
  The document's example.
-/
namespace Go.WK
open Go Go.Proofs

theorem str1 {H : Hp} {s : ByteArray} (hs : Sz s) (t : Nat) : StrSl (fun x => x = H.size) (H.push (.cells #[.string s] t)) (.slice (some ⟨H.size, 0, none⟩) 1 1) [s] := by
  refine ⟨(by decide : (1 : Nat) ≤ big), .inr ⟨H.size, 0, 1, rfl, Nat.le_refl _, fun i hi => ?_⟩⟩
  have hi0 : i = 0 := by simp at hi; omega
  subst hi0
  exact ⟨rfl, _, rdn_new H [_] t 0 1 (Nat.le_refl _), rfl, hs⟩
theorem list_one {L : List Hd} {h : Hd} (hm : ∀ x, x ∈ L ↔ x = h) (hl : L.length = 1) : L = [h] := by
  match L, hl with
  | [x], _ => rw [(hm x).1 (by simp)]
abbrev kk : ByteArray := ⟨#[107]⟩
theorem plain_put : putE [] [plainH kk 1] = 0 := by decide
theorem awake_cl {H : Hp} : Cl Tryz.prog 9 [] H fun r H' => r = .bool true ∧ Ext H H' := by
  have hkk : Sz kk := by unfold Sz big; decide
  refine cl_of mixed c_watershedlaw16_awake (Nat.le_of_ble_eq_true rfl) ?_
  simp only [fwp, ir_watershedlaw16_awake, argF, Nat.reduceAdd]
  refine w_reg fun K hK => ?_
  simp (disch := omega) only [↓wD, ↓i_cbs, ↓i_csk, wU, b_and, b_or, b_shl, b_shr, Nat.reduceBEq, reduceCtorEq, Int.reduceEq, Int.reduceLT, Int.reduceLE, Int.reduceNeg, Value.cells, Value.oneCell', Nat.reduceAdd, Nat.reduceEqDiff, fillL, setL, Nat.reduceLeDiff, ]
  refine hK _ _ ?_
  clear hK K
  refine w_reg fun K hK => ?_
  simp (disch := omega) only [↓wD, ↓i_cbs, ↓i_csk, wU, b_and, b_or, b_shl, b_shr, Nat.reduceBEq, reduceCtorEq, Int.reduceEq, Int.reduceLT, Int.reduceLE, Int.reduceNeg, Value.cells, Value.oneCell', Nat.reduceAdd, Nat.reduceEqDiff, fillL, setL, Nat.reduceLeDiff, ]
  refine w_call (New_cl) ?_
  rintro _ H1 ⟨rfl, hE1, hT1⟩
  simp (disch := omega) only [↓wD, ↓i_cbs, ↓i_csk, wU, b_and, b_or, b_shl, b_shr, Nat.reduceBEq, reduceCtorEq, Int.reduceEq, Int.reduceLT, Int.reduceLE, Int.reduceNeg, Value.cells, Value.oneCell', Nat.reduceAdd, Nat.reduceEqDiff, fillL, setL, Nat.reduceLeDiff, ]
  refine hK _ _ ?_
  clear hK K
  refine w_reg fun K hK => ?_
  simp (disch := omega) only [↓wD, ↓i_cbs, ↓i_csk, wU, b_and, b_or, b_shl, b_shr, Nat.reduceBEq, reduceCtorEq, Int.reduceEq, Int.reduceLT, Int.reduceLE, Int.reduceNeg, Value.cells, Value.oneCell', Nat.reduceAdd, Nat.reduceEqDiff, fillL, setL, Nat.reduceLeDiff, ]
  refine w_call (plain_cl kk 1 hkk i64_1) ?_
  rintro _ H2 ⟨cs, G2, rfl, he, hG2, hE2⟩
  have he' := he
  obtain ⟨va, vr, ecs, -⟩ := he'
  rw [ecs]
  simp (disch := omega) only [↓wD, ↓i_cbs, ↓i_csk, wU, b_and, b_or, b_shl, b_shr, Nat.reduceBEq, reduceCtorEq, Int.reduceEq, Int.reduceLT, Int.reduceLE, Int.reduceNeg, Value.cells, Value.oneCell', Nat.reduceAdd, Nat.reduceEqDiff, fillL, setL, Nat.reduceLeDiff, ]
  rw [← ecs]
  have hp1 := cell_lt hT1.c0
  have hs2 := hE2.size
  have hE3 : Ext H2 (H2.push (.cells cs.toArray 35)) := (Ext.refl _).push _
  refine w_call (Put_cl (hT1.ext (hE2.trans hE3)) WF.nil (he.sl1 35) (fun x hx => by
      refine ⟨fun h => h, fun e => ?_⟩
      rcases hx with hx | hx
      · have := (hG2 x hx).1; omega
      · omega)) ?_
  rintro _ H3 ⟨rfl, hk3, L, M, G, v, hW, hT, hGr, hput, -⟩
  obtain ⟨hmem, hlen⟩ := hput plain_put
  have hL : L = [plainH kk 1] := list_one (by intro x; rw [hmem x]; simp) (by rw [hlen]; rfl)
  subst hL
  rw [plain_put]
  simp (disch := omega) only [↓wD, ↓i_cbs, ↓i_csk, wU, b_and, b_or, b_shl, b_shr, Nat.reduceBEq, reduceCtorEq, Int.reduceEq, Int.reduceLT, Int.reduceLE, Int.reduceNeg, Value.cells, Value.oneCell', Nat.reduceAdd, Nat.reduceEqDiff, fillL, setL, Nat.reduceLeDiff, ]
  refine hK _ _ ?_
  clear hK K
  have hE13 : Ext H H3 := ⟨Nat.le_trans ((hE1.trans hE2).trans hE3).size hk3.1, fun b hb => by
    have := hE1.size
    rw [hk3.2 b (Nat.lt_of_lt_of_le hb ((hE1.trans hE2).trans hE3).size) ⟨fun h => h, by omega⟩, ((hE1.trans hE2).trans hE3).2 b hb]⟩
  refine w_reg fun K hK => ?_
  simp (disch := omega) only [↓wD, ↓i_cbs, ↓i_csk, wU, b_and, b_or, b_shl, b_shr, Nat.reduceBEq, reduceCtorEq, Int.reduceEq, Int.reduceLT, Int.reduceLE, Int.reduceNeg, Value.cells, Value.oneCell', Nat.reduceAdd, Nat.reduceEqDiff, fillL, setL, Nat.reduceLeDiff, ]
  have hE4 : Ext H3 (H3.push (.cells #[.string kk] 9)) := (Ext.refl _).push _
  refine w_call (Busy_cl ⟨1, 1⟩ (hT.ext hE4) hW.sorted hW.sm (str1 hkk 9)) ?_
  rintro _ H5 ⟨hE5, a, b, rfl, hb⟩
  have hb0 : b = false := by
    rcases hb with ⟨_, x, hx, _, hne, _⟩ | ⟨h, _⟩
    · simp at hx; subst hx; exact absurd rfl hne
    · exact h
  subst hb0
  simp (disch := omega) only [↓wD, ↓i_cbs, ↓i_csk, wU, b_and, b_or, b_shl, b_shr, Nat.reduceBEq, reduceCtorEq, Int.reduceEq, Int.reduceLT, Int.reduceLE, Int.reduceNeg, Value.cells, Value.oneCell', Nat.reduceAdd, Nat.reduceEqDiff, fillL, setL, Nat.reduceLeDiff, ]
  refine hK _ _ ?_
  clear hK K
  have hE6 : Ext H5 (H5.push (.cells #[.int .i64 a.client, .int .i64 a.num] 24)) := (Ext.refl _).push _
  generalize H5.push (.cells #[.int .i64 a.client, .int .i64 a.num] 24) = H6 at hE6 ⊢
  refine w_reg fun K hK => ?_
  simp (disch := omega) only [↓wD, ↓i_cbs, ↓i_csk, wU, b_and, b_or, b_shl, b_shr, Nat.reduceBEq, reduceCtorEq, Int.reduceEq, Int.reduceLT, Int.reduceLE, Int.reduceNeg, Value.cells, Value.oneCell', Nat.reduceAdd, Nat.reduceEqDiff, fillL, setL, Nat.reduceLeDiff, ]
  have hE7 : Ext H6 (H6.push (.cells #[.string kk] 9)) := (Ext.refl _).push _
  have hE37 := ((hE4.trans hE5).trans hE6).trans hE7
  refine w_call (Busy_cl ⟨2, 1⟩ (hT.ext hE37) hW.sorted hW.sm (str1 hkk 9)) ?_
  rintro _ H8 ⟨hE8, a2, b2, rfl, hb2⟩
  have hb1 : b2 = true ∧ a2 = ⟨1, 1⟩ := by
    rcases hb2 with ⟨h, x, hx, _, _, e⟩ | ⟨_, _, h⟩
    · simp at hx; subst hx; exact ⟨h, e⟩
    · have := h (plainH kk 1) (by simp) rfl
      cases this
  obtain ⟨rfl, rfl⟩ := hb1
  simp (disch := omega) only [↓wD, ↓i_cbs, ↓i_csk, wU, b_and, b_or, b_shl, b_shr, Nat.reduceBEq, reduceCtorEq, Int.reduceEq, Int.reduceLT, Int.reduceLE, Int.reduceNeg, Value.cells, Value.oneCell', Nat.reduceAdd, Nat.reduceEqDiff, fillL, setL, Nat.reduceLeDiff, ]
  refine hK _ _ ?_
  clear hK K
  have hE9 : Ext H8 (H8.push (.cells #[.int .i64 1, .int .i64 1] 24)) := (Ext.refl _).push _
  have hr9 : rdn (H8.push (.cells #[.int .i64 1, .int .i64 1] 24)) H8.size 0 2 = some [.int .i64 1, .int .i64 1] := rdn_new H8 [_, _] 24 0 2 (Nat.le_refl _)
  generalize H8.push (.cells #[.int .i64 1, .int .i64 1] 24) = H9 at hE9 hr9 ⊢
  have hE39 := (hE37.trans hE8).trans hE9
  refine w_reg fun K hK => ?_
  simp (disch := omega) only [↓wD, ↓i_cbs, ↓i_csk, wU, b_and, b_or, b_shl, b_shr, Nat.reduceBEq, reduceCtorEq, Int.reduceEq, Int.reduceLT, Int.reduceLE, Int.reduceNeg, Value.cells, Value.oneCell', Nat.reduceAdd, Nat.reduceEqDiff, fillL, setL, Nat.reduceLeDiff, hr9, leavesEq, leafEq]
  refine w_call (Many_cl (hT.ext hE39)) ?_
  rintro _ _ ⟨rfl, rfl⟩
  simp (disch := omega) only [↓wD, ↓i_cbs, ↓i_csk, wU, b_and, b_or, b_shl, b_shr, Nat.reduceBEq, reduceCtorEq, Int.reduceEq, Int.reduceLT, Int.reduceLE, Int.reduceNeg, Value.cells, Value.oneCell', Nat.reduceAdd, Nat.reduceEqDiff, fillL, setL, Nat.reduceLeDiff, cast1]
  refine hK _ _ ?_
  clear hK K
  refine w_ret ?_
  repeat (first | with_reducible refine q_n ?_ | with_reducible refine q_e ?_ | with_reducible refine q_r ?_ | with_reducible refine bq_n ?_ | with_reducible refine bq_e ?_ | with_reducible refine bq_r ?_ | with_reducible refine bq_o rfl ?_)
  refine ret1 (by (try simp only [ev_tmp, ev_const, upd_apply, Nat.reduceBEq, cond_true, cond_false, ]); rfl) ?_
  exact ⟨rfl, hE13.trans hE39⟩
end Go.WK
/-
  HoldsOne.
-/
namespace Go.WK
open Go Go.Proofs

theorem right_key {h : Hd} (hr : rightB h = true) : isKey h.key = true := by
  simp only [rightB, actsB, Bool.and_eq_true, decide_eq_true_eq, List.all_eq_true] at hr
  obtain ⟨⟨⟨⟨⟨⟨⟨h1, -⟩, ⟨h2, -⟩, h3⟩, -⟩, -⟩, -⟩, -⟩, -⟩ := hr
  cases hl : h.acts with
  | nil => rw [hl] at h2; simp at h2
  | cons a l =>
    have e := h1 a (by rw [hl]; simp)
    have k := h3 a (by rw [hl]; simp)
    simp only [actB, Bool.and_eq_true] at k
    rw [← e]; exact k.1
theorem sless_empty (k : ByteArray) : sless k .empty = false := by
  unfold sless
  have : ByteArray.empty.toList = [] := by simp [ByteArray.toList, ByteArray.toList.loop]
  rw [this]
  cases k.toList <;> rfl
theorem has_all {k : ByteArray} (h : isKey k = true) : spHas .empty .empty k = true := by
  simp [spHas, spRight, spAbove, h, sless_empty]
theorem WF.all {L : List Hd} (h : WF L) : (L.filter fun x => spHas .empty .empty x.key) = L :=
  List.filter_eq_self.2 fun x hx => has_all (right_key (h.right x hx))
theorem cnt_eq {key : ByteArray} : ∀ {L : List Hd}, Sorted L → L.countP (fun h => decide (h.key = key)) = if hasK L key then 1 else 0
  | [], _ => rfl
  | a :: L, hs => by
    have hs' := List.pairwise_cons.1 hs
    have ih := @cnt_eq key L hs'.2
    rw [List.countP_cons, ih]
    by_cases h : a.key = key
    · have hno : hasK L key = false := by
        cases hh : hasK L key with
        | false => rfl
        | true =>
          obtain ⟨x, hx, hk⟩ := hasK_iff.1 hh
          have := hs'.1 x hx
          rw [h, hk, sless_irrefl] at this; cases this
      have hyes : hasK (a :: L) key = true := hasK_iff.2 ⟨a, by simp, h⟩
      simp [hno, hyes, h]
    · have : hasK (a :: L) key = hasK L key := by
        unfold hasK; rw [List.any_cons]; simp [h]
      simp [this, h]
theorem put_there {L : List Hd} {x : Hd} (hW : WF L) (hx : x ∈ L) : putE L [x] = 7 := by
  unfold putE
  rw [if_neg, if_pos]
  · simp only [List.any_cons, List.any_nil, Bool.or_false]
    exact hasK_iff.2 ⟨x, hx, rfl⟩
  · simp [hW.right x hx]

theorem any1 (key : ByteArray) (h : Hd) : ([key].any fun x => decide (h.key = x)) = decide (h.key = key) := by simp
theorem fkey_len {L : List Hd} {key : ByteArray} (hs : Sorted L) : (L.filter fun h => [key].any fun x => decide (h.key = x)).length = if hasK L key then 1 else 0 := by
  simp only [any1]
  rw [← List.countP_eq_length_filter, cnt_eq hs]
theorem fkey_one {L : List Hd} {key : ByteArray} {x : Hd} (hs : Sorted L) (hx : x ∈ L) (hk : x.key = key) : (L.filter fun h => [key].any fun x => decide (h.key = x)) = [x] := by
  have hh : hasK L key = true := hasK_iff.2 ⟨x, hx, hk⟩
  have h1 := fkey_len (key := key) hs
  rw [hh] at h1
  have h2 : x ∈ L.filter fun h => [key].any fun x => decide (h.key = x) := by simp [hx, hk]
  obtain ⟨y, hf⟩ := List.length_eq_one_iff.1 h1
  rw [hf] at h2 ⊢
  simp at h2
  rw [h2]
theorem fkey_rest {L : List Hd} {key : ByteArray} (hs : Sorted L) : (L.filter fun h => ![key].any fun x => decide (h.key = x)).length + (if hasK L key then 1 else 0) = L.length := by
  have h1 := fkey_len (key := key) hs
  rw [← h1]
  have h2 := List.length_eq_countP_add_countP (fun h : Hd => [key].any fun x => decide (h.key = x)) (l := L)
  rw [List.countP_eq_length_filter, List.countP_eq_length_filter] at h2
  have h3 : (fun h : Hd => decide ¬([key].any fun x => decide (h.key = x)) = true) = fun h : Hd => ![key].any fun x => decide (h.key = x) := by
    funext h
    cases [key].any fun x => decide (h.key = x) <;> rfl
  rw [h3] at h2
  omega
theorem WF.filter {L : List Hd} (h : WF L) (q : Hd → Bool) : WF (L.filter q) :=
  ⟨h.sorted.sublist List.filter_sublist, Nat.le_trans (List.length_filter_le _ _) h.le, fun x hx => h.right x (List.mem_filter.1 hx).1⟩
def reName (h : Hd) : Hd := { h with name := ⟨1 + h.name.client.tmod 8, 1⟩ }
theorem right_reName {h : Hd} (hr : rightB h = true) : rightB (reName h) = true ∧ 1 ≤ h.name.client ∧ h.name.client ≤ 8 := by
  unfold rightB at hr ⊢
  simp only [reName]
  simp only [Bool.and_eq_true] at hr ⊢
  obtain ⟨⟨⟨⟨⟨⟨⟨h1, h2⟩, h3⟩, h4⟩, h5⟩, h6⟩, h7⟩, h8⟩ := hr
  simp only [nameB, Bool.and_eq_true, decide_eq_true_eq] at h2
  have hm : h.name.client.tmod 8 = h.name.client % 8 := Int.tmod_eq_emod_of_nonneg (by omega)
  refine ⟨⟨⟨⟨⟨⟨⟨⟨h1, ?_⟩, h3⟩, h4⟩, h5⟩, h6⟩, h7⟩, h8⟩, by omega, by omega⟩
  simp only [nameB, Bool.and_eq_true, decide_eq_true_eq]
  rw [hm]
  omega
theorem put_free {L : List Hd} {x : Hd} (hW : WF L) (hx : x ∈ L) : putE (L.filter fun h => ![x.key].any fun k => decide (h.key = k)) [reName x] = 0 := by
  have hr := (right_reName (hW.right x hx)).1
  have hlen := fkey_rest (key := x.key) hW.sorted
  rw [if_pos (hasK_iff.2 ⟨x, hx, rfl⟩)] at hlen
  unfold putE
  rw [if_neg, if_neg, if_neg]
  · have := hW.le
    simp only [List.length_cons, List.length_nil]
    omega
  · simp only [List.any_cons, List.any_nil, Bool.or_false]
    intro hh
    obtain ⟨y, hy, hk⟩ := hasK_iff.1 hh
    have := (List.mem_filter.1 hy).2
    simp [hk, reName] at this
  · simp [hr]
theorem nm_ne {a n : Nm} (h : a ≠ n) : (decide (a.client = n.client) && decide (a.num = n.num)) = false := by
  cases hh : (decide (a.client = n.client) && decide (a.num = n.num)) with
  | false => rfl
  | true =>
    simp only [Bool.and_eq_true, decide_eq_true_eq] at hh
    exact absurd (by cases a; cases n; simp_all) h
theorem nm_self {a : Nm} : (decide (a.client = a.client) && decide (a.num = a.num)) = true := by simp

theorem KeepOn.low {A B C : Hp} {K : Nat → Prop} (hE : Ext A B) (hk : KeepOn K B C) (hK : ∀ b, b < A.size → K b) : Ext A C :=
  ⟨Nat.le_trans hE.1 hk.1, fun b hb => by rw [hk.2 b (Nat.lt_of_lt_of_le hb hE.1) (hK b hb), hE.2 b hb]⟩

theorem HoldsOne_cl {S : Nat → Prop} {H : Hp} {v : Value} {l : List Hd} {key : ByteArray} {n : Nm} (hv : HdSl S H v l) (hk : Sz key) (hn : n.ok) :
    ClL Tryz.prog 3 [v, .string key, .agg #[.int .i64 n.client, .int .i64 n.num]] H fun r H' => r = .bool true ∧ Ext H H' := by
  refine clL_of mixed c_watershedlaw16_HoldsOne (Nat.le_of_ble_eq_true rfl) ?_
  simp only [fwp, ir_watershedlaw16_HoldsOne, argF, Nat.reduceAdd]
  unfold Sz big at hk
  obtain ⟨la, lc, rfl, hlc, hll, -⟩ := SlP.open hv
  refine w_reg fun K hK => ?_
  simp (disch := omega) only [↓wD, ↓i_cbs, ↓i_csk, wU, b_and, b_or, b_shl, b_shr, Nat.reduceBEq, reduceCtorEq, Int.reduceEq, Int.reduceLT, Int.reduceLE, Int.reduceNeg, Value.cells, Value.oneCell', Nat.reduceAdd, Nat.reduceEqDiff, fillL, setL, Nat.reduceLeDiff, ]
  refine hK _ _ ?_
  clear hK K
  have hE0 : Ext H (H.push (.cells #[.int .i64 n.client, .int .i64 n.num] 24)) := (Ext.refl _).push _
  have hrn : rdn (H.push (.cells #[.int .i64 n.client, .int .i64 n.num] 24)) H.size 0 2 = some [.int .i64 n.client, .int .i64 n.num] := rdn_new H [_, _] 24 0 2 (Nat.le_refl _)
  generalize H.push (.cells #[.int .i64 n.client, .int .i64 n.num] 24) = H0 at hE0 hrn ⊢
  have hnlt := cell_lt (rdn2 hrn).1
  refine w_seq (w_seq ?_)
  refine w_reg fun K hK => ?_
  simp (disch := omega) only [↓wD, ↓i_cbs, ↓i_csk, wU, b_and, b_or, b_shl, b_shr, Nat.reduceBEq, reduceCtorEq, Int.reduceEq, Int.reduceLT, Int.reduceLE, Int.reduceNeg, Value.cells, Value.oneCell', Nat.reduceAdd, Nat.reduceEqDiff, fillL, setL, Nat.reduceLeDiff, ]
  refine w_call (awake_cl) ?_
  rintro _ H1 ⟨rfl, hE1⟩
  simp (disch := omega) only [↓wD, ↓i_cbs, ↓i_csk, wU, b_and, b_or, b_shl, b_shr, Nat.reduceBEq, reduceCtorEq, Int.reduceEq, Int.reduceLT, Int.reduceLE, Int.reduceNeg, Value.cells, Value.oneCell', Nat.reduceAdd, Nat.reduceEqDiff, fillL, setL, Nat.reduceLeDiff, ]
  refine hK _ _ ?_
  clear hK K
  refine w_false (by simp only [ev_tmp, ev_const, upd_apply, Nat.reduceBEq, cond_true, cond_false, Bool.not_true, Bool.not_false, ]) ?_
  refine w_skip ?_
  repeat (first | with_reducible refine q_n ?_ | with_reducible refine q_e ?_ | with_reducible refine q_r ?_ | with_reducible refine bq_n ?_ | with_reducible refine bq_e ?_ | with_reducible refine bq_r ?_ | with_reducible refine bq_o rfl ?_)
  have hE01 := hE0.trans hE1
  refine w_seq (w_seq ?_)
  refine w_reg fun K hK => ?_
  simp (disch := omega) only [↓wD, ↓i_cbs, ↓i_csk, wU, b_and, b_or, b_shl, b_shr, Nat.reduceBEq, reduceCtorEq, Int.reduceEq, Int.reduceLT, Int.reduceLE, Int.reduceNeg, Value.cells, Value.oneCell', Nat.reduceAdd, Nat.reduceEqDiff, fillL, setL, Nat.reduceLeDiff, ]
  refine w_call (HoldsOf_cl 1500 (hv.ext hE01)) ?_
  rintro _ H1' ⟨e, m, rfl⟩
  subst e
  by_cases hm : 1500 < m
  · simp (disch := omega) only [↓wD, ↓i_cbs, ↓i_csk, wU, b_and, b_or, b_shl, b_shr, Nat.reduceBEq, reduceCtorEq, Int.reduceEq, Int.reduceLT, Int.reduceLE, Int.reduceNeg, Value.cells, Value.oneCell', Nat.reduceAdd, Nat.reduceEqDiff, fillL, setL, Nat.reduceLeDiff, hm]
    refine hK _ _ ?_
    clear hK K
    refine w_true (by simp only [ev_tmp, ev_const, upd_apply, Nat.reduceBEq, cond_true, cond_false, Bool.not_true, Bool.not_false, ]) ?_
    refine w_reg fun K hK => ?_
    simp (disch := omega) only [↓wD, ↓i_cbs, ↓i_csk, wU, b_and, b_or, b_shl, b_shr, Nat.reduceBEq, reduceCtorEq, Int.reduceEq, Int.reduceLT, Int.reduceLE, Int.reduceNeg, Value.cells, Value.oneCell', Nat.reduceAdd, Nat.reduceEqDiff, fillL, setL, Nat.reduceLeDiff, ]
    refine hK _ _ ?_
    clear hK K
    refine w_ret ?_
    repeat (first | with_reducible refine q_n ?_ | with_reducible refine q_e ?_ | with_reducible refine q_r ?_ | with_reducible refine bq_n ?_ | with_reducible refine bq_e ?_ | with_reducible refine bq_r ?_ | with_reducible refine bq_o rfl ?_)
    refine ret1 (by (try simp only [ev_tmp, ev_const, upd_apply, Nat.reduceBEq, cond_true, cond_false, ]); rfl) ?_
    exact ⟨rfl, hE01⟩
  by_cases hk2 : (1500 : Int) < key.size
  · simp (disch := omega) only [↓wD, ↓i_cbs, ↓i_csk, wU, b_and, b_or, b_shl, b_shr, Nat.reduceBEq, reduceCtorEq, Int.reduceEq, Int.reduceLT, Int.reduceLE, Int.reduceNeg, Value.cells, Value.oneCell', Nat.reduceAdd, Nat.reduceEqDiff, fillL, setL, Nat.reduceLeDiff, hm, hk2]
    refine hK _ _ ?_
    clear hK K
    refine w_true (by simp only [ev_tmp, ev_const, upd_apply, Nat.reduceBEq, cond_true, cond_false, Bool.not_true, Bool.not_false, ]) ?_
    refine w_reg fun K hK => ?_
    simp (disch := omega) only [↓wD, ↓i_cbs, ↓i_csk, wU, b_and, b_or, b_shl, b_shr, Nat.reduceBEq, reduceCtorEq, Int.reduceEq, Int.reduceLT, Int.reduceLE, Int.reduceNeg, Value.cells, Value.oneCell', Nat.reduceAdd, Nat.reduceEqDiff, fillL, setL, Nat.reduceLeDiff, ]
    refine hK _ _ ?_
    clear hK K
    refine w_ret ?_
    repeat (first | with_reducible refine q_n ?_ | with_reducible refine q_e ?_ | with_reducible refine q_r ?_ | with_reducible refine bq_n ?_ | with_reducible refine bq_e ?_ | with_reducible refine bq_r ?_ | with_reducible refine bq_o rfl ?_)
    refine ret1 (by (try simp only [ev_tmp, ev_const, upd_apply, Nat.reduceBEq, cond_true, cond_false, ]); rfl) ?_
    exact ⟨rfl, hE01⟩
  simp (disch := omega) only [↓wD, ↓i_cbs, ↓i_csk, wU, b_and, b_or, b_shl, b_shr, Nat.reduceBEq, reduceCtorEq, Int.reduceEq, Int.reduceLT, Int.reduceLE, Int.reduceNeg, Value.cells, Value.oneCell', Nat.reduceAdd, Nat.reduceEqDiff, fillL, setL, Nat.reduceLeDiff, hm, hk2]
  refine hK _ _ ?_
  clear hK K
  refine w_false (by simp only [ev_tmp, ev_const, upd_apply, Nat.reduceBEq, cond_true, cond_false, Bool.not_true, Bool.not_false, ]) ?_
  refine w_skip ?_
  repeat (first | with_reducible refine q_n ?_ | with_reducible refine q_e ?_ | with_reducible refine q_r ?_ | with_reducible refine bq_n ?_ | with_reducible refine bq_e ?_ | with_reducible refine bq_r ?_ | with_reducible refine bq_o rfl ?_)
  have hrn1 := rdn_ext hE1 hrn
  have hnlt1 := Nat.lt_of_lt_of_le hnlt hE1.size
  refine w_reg fun K hK => ?_
  simp (disch := omega) only [↓wD, ↓i_cbs, ↓i_csk, wU, b_and, b_or, b_shl, b_shr, Nat.reduceBEq, reduceCtorEq, Int.reduceEq, Int.reduceLT, Int.reduceLE, Int.reduceNeg, Value.cells, Value.oneCell', Nat.reduceAdd, Nat.reduceEqDiff, fillL, setL, Nat.reduceLeDiff, ]
  refine w_call (made_cl (hv.ext hE01)) ?_
  rintro _ H2 ⟨rfl, hE2, L, M, G, vt, hT, hW, hlo⟩
  simp (disch := omega) only [↓wD, ↓i_cbs, ↓i_csk, wU, b_and, b_or, b_shl, b_shr, Nat.reduceBEq, reduceCtorEq, Int.reduceEq, Int.reduceLT, Int.reduceLE, Int.reduceNeg, Value.cells, Value.oneCell', Nat.reduceAdd, Nat.reduceEqDiff, fillL, setL, Nat.reduceLeDiff, ]
  refine hK _ _ ?_
  clear hK K
  have hE02 := hE01.trans hE2
  have hrn2 := rdn_ext hE2 hrn1
  have he0 : Sz ByteArray.empty := by unfold Sz big; decide
  refine w_reg fun K hK => ?_
  simp (disch := omega) only [↓wD, ↓i_cbs, ↓i_csk, wU, b_and, b_or, b_shl, b_shr, Nat.reduceBEq, reduceCtorEq, Int.reduceEq, Int.reduceLT, Int.reduceLE, Int.reduceNeg, Value.cells, Value.oneCell', Nat.reduceAdd, Nat.reduceEqDiff, fillL, setL, Nat.reduceLeDiff, ]
  refine w_call (In_cl .empty .empty hT hW.sm he0 he0) ?_
  rintro _ H3 ⟨hE3, Ma, Ga, hda, hla, hra⟩
  rw [hW.all] at hra
  simp (disch := omega) only [↓wD, ↓i_cbs, ↓i_csk, wU, b_and, b_or, b_shl, b_shr, Nat.reduceBEq, reduceCtorEq, Int.reduceEq, Int.reduceLT, Int.reduceLE, Int.reduceNeg, Value.cells, Value.oneCell', Nat.reduceAdd, Nat.reduceEqDiff, fillL, setL, Nat.reduceLeDiff, ]
  refine hK _ _ ?_
  clear hK K
  rename_i va
  have hrn3 := rdn_ext hE3 hrn2
  have hE03 := hE02.trans hE3
  have hLl := hW.le
  have hsl := hra.slp (by unfold big; omega)
  have hR : ∀ x, (Ma x ∨ Ga x) → H2.size ≤ x ∧ x < H3.size := hla
  generalize hRd : (fun x => Ma x ∨ Ga x) = R at hsl
  have hR : ∀ x, R x → H2.size ≤ x ∧ x < H3.size := by subst hRd; exact hla
  clear hRd hla hra hda
  obtain ⟨aa, ac, rfl, hac, -, hel⟩ := SlP.open hsl
  have hT3 := hT.ext hE3
  have hs12 := hE2.size
  have hs23 := hE3.size
  have hs01 := hE01.size
  generalize hpe : H1'.size = p at hT hT3 hlo hs12 ⊢
  have hp2 : p < H2.size := cell_lt hT.c0
  have hMlt : ∀ x, M x → x < H2.size := fun x hx => hT.lt x (.inl hx)
  refine w_reg fun K hK => ?_
  simp (disch := omega) only [↓wD, ↓i_cbs, ↓i_csk, wU, b_and, b_or, b_shl, b_shr, Nat.reduceBEq, reduceCtorEq, Int.reduceEq, Int.reduceLT, Int.reduceLE, Int.reduceNeg, Value.cells, Value.oneCell', Nat.reduceAdd, Nat.reduceEqDiff, fillL, setL, Nat.reduceLeDiff, ]
  refine hK _ _ ?_
  clear hK K
  refine w_seq (w_seq ?_)
  refine w_reg fun K hK => ?_
  simp (disch := omega) only [↓wD, ↓i_cbs, ↓i_csk, wU, b_and, b_or, b_shl, b_shr, Nat.reduceBEq, reduceCtorEq, Int.reduceEq, Int.reduceLT, Int.reduceLE, Int.reduceNeg, Value.cells, Value.oneCell', Nat.reduceAdd, Nat.reduceEqDiff, fillL, setL, Nat.reduceLeDiff, ]
  refine hK _ _ ?_
  clear hK K
  refine w_blk (w_loop (fun n' f H' => f 1 = .string key ∧ f 5 = .pointer (some ⟨H.size, 0, none⟩) ∧ f 7 = .pointer (some ⟨p, 0, none⟩) ∧ f 8 = .slice aa L.length ac ∧ KeepOn (fun x => ¬ M x ∧ x ≠ p) H3 H' ∧ (∃ M' G' v', Tab M' G' H' p L v' ∧ Grown M G M' G' H3.size) ∧ ∃ i : Nat, f 10 = .int .i64 i ∧ i ≤ L.length ∧ f 9 = .int .i64 ((L.take i).countP fun h => decide (h.key = key)) ∧ n' = L.length - i) _ ⟨(by simp only [ev_tmp, ev_const, upd_apply, Nat.reduceBEq, cond_true, cond_false, ]), (by simp only [ev_tmp, ev_const, upd_apply, Nat.reduceBEq, cond_true, cond_false, ]), (by simp only [ev_tmp, ev_const, upd_apply, Nat.reduceBEq, cond_true, cond_false, ]), (by simp only [ev_tmp, ev_const, upd_apply, Nat.reduceBEq, cond_true, cond_false, ]), KeepOn.refl _ _, ⟨M, G, vt, hT3, Grown.refl⟩, 0, (by simp only [ev_tmp, ev_const, upd_apply, Nat.reduceBEq, cond_true, cond_false, ]; rfl), Nat.zero_le _, (by simp only [ev_tmp, ev_const, upd_apply, Nat.reduceBEq, cond_true, cond_false, ]; rfl), rfl⟩ ?_)
  rintro n' f H' ⟨f1, f5, f7, f8, hKp, ⟨M', G', v', hT', hGr⟩, i, f10, hi, f9, rfl⟩
  have hkR : ∀ x, R x → x < H3.size → H'[x]? = H3[x]? := fun x hx hx' => hKp.2 x hx' ⟨fun hm => by have := hMlt x hm; have := (hR x hx).1; omega, by have := (hR x hx).1; omega⟩
  refine w_seq (w_seq ?_)
  by_cases hil : i < L.length
  · obtain ⟨b, o, rfl, hRb, cs, hcs, he⟩ := hel i hil
    have hb3 := hR b hRb
    have hcs' := rdn_block (hkR b hRb hb3.2) hcs
    have he1 : ElHd R H' cs L[i] := he.mono (fun _ h => h) hkR
    have htake : L.take (i + 1) = L.take i ++ [L[i]] := by
      rw [List.take_add_one, List.getElem?_eq_getElem hil]; rfl
    have he' := he1
    obtain ⟨xva, xvr, ecs, -⟩ := he'
    rw [ecs] at hcs'
    obtain ⟨c0, c1, c2, c3, c4, c5, c6⟩ := rdn7 hcs'
    refine w_reg fun K hK => ?_
    simp (disch := omega) only [↓wD, ↓i_cbs, ↓i_csk, wU, b_and, b_or, b_shl, b_shr, Nat.reduceBEq, reduceCtorEq, Int.reduceEq, Int.reduceLT, Int.reduceLE, Int.reduceNeg, Value.cells, Value.oneCell', Nat.reduceAdd, Nat.reduceEqDiff, fillL, setL, Nat.reduceLeDiff, f8, f10, hil]
    refine hK _ _ ?_
    clear hK K
    refine w_true (by simp only [ev_tmp, ev_const, upd_apply, Nat.reduceBEq, cond_true, cond_false, Bool.not_true, Bool.not_false, ]) ?_
    refine w_skip ?_
    repeat (first | with_reducible refine q_n ?_ | with_reducible refine q_e ?_ | with_reducible refine q_r ?_ | with_reducible refine bq_n ?_ | with_reducible refine bq_e ?_ | with_reducible refine bq_r ?_ | with_reducible refine bq_o rfl ?_)
    refine w_seq (w_blk ?_)
    refine w_seq ?_
    have hE4 : Ext H' (H'.push (.cells cs.toArray 35)) := (Ext.refl _).push _
    have hs3' := hKp.1
    have put := Put_cl (hT'.ext hE4) hW (he1.sl1 35) (fun x hx => by
      have hlt' : ∀ y, M' y → y < H2.size ∨ H3.size ≤ y := fun y hy => (hGr.1 y hy).elim (fun h => .inl (hMlt y h)) .inr
      rcases hx with hx | hx
      · have := hR x hx
        exact ⟨fun hm => by have := hlt' x hm; omega, by omega⟩
      · exact ⟨fun hm => by have := hT'.lt x (.inl hm); omega, by omega⟩)
    rw [put_there hW (List.getElem_mem hil)] at put
    have hbM : ¬ M' b ∧ b ≠ p := ⟨fun hm => by
      rcases hGr.1 b hm with h | h
      · have := hMlt b h; omega
      · omega, by omega⟩
    have hb' : b < H'.size := Nat.lt_of_lt_of_le hb3.2 hs3'
    refine w_cut (fun g H'' => g 63 = .bool false ∧ g 1 = .string key ∧ g 5 = .pointer (some ⟨H.size, 0, none⟩) ∧ g 7 = .pointer (some ⟨p, 0, none⟩) ∧ g 8 = .slice (some ⟨b, o, none⟩) L.length ac ∧ KeepOn (fun x => ¬ M x ∧ x ≠ p) H3 H'' ∧ (∃ M' G' v', Tab M' G' H'' p L v' ∧ Grown M G M' G' H3.size) ∧ g 10 = .int .i64 i ∧ g 9 = .int .i64 ((L.take i).countP fun h => decide (h.key = key))) ?_ ?_
    · have after : ∀ (H5 : Hp) L5 M5 G5 v5, KeepOn (fun x => ¬ M' x ∧ x ≠ p) (H'.push (.cells cs.toArray 35)) H5 → Tab M5 G5 H5 p L5 v5 → L5 = L → Grown M' G' M5 G5 (H'.push (.cells cs.toArray 35)).size → KeepOn (fun x => ¬ M x ∧ x ≠ p) H3 H5 ∧ ∃ M' G' v', Tab M' G' H5 p L v' ∧ Grown M G M' G' H3.size := by
        intro H5 L5 M5 G5 v5 hk5 hT5 hL5 hG5
        subst hL5
        have hs4 := hE4.size
        refine ⟨⟨Nat.le_trans hs3' (Nat.le_trans hs4 hk5.1), fun x hx hx' => ?_⟩, M5, G5, v5, hT5, hGr.trans hG5 (by omega)⟩
        rw [hk5.2 x (by omega) ⟨fun hm => ?_, hx'.2⟩, hE4.2 x (by omega), hKp.2 x hx hx']
        rcases hGr.1 x hm with h | h
        · exact hx'.1 h
        · omega
      refine w_lin1 (fun x => x = b) fun K hK => ?_
      by_cases hi0 : i = 0
      · have z1 : ((0 : Int) < (i : Int)) = False := by simp [hi0]
        have z2 : (0 < i) = False := by simp [hi0]
        simp (disch := omega) only [↓l_nil, ↓l_f, ↓l_t, ↓o_s, ↓o_e, ↓o_g, ↓o_ge, ↓k_ld, ↓k_ldn, isemS, ↓wD, ↓i_cbs, ↓i_csk, wU, b_and, b_or, b_shl, b_shr, Nat.reduceBEq, reduceCtorEq, Int.reduceEq, Int.reduceLT, Int.reduceLE, Int.reduceNeg, Value.cells, Value.oneCell', Nat.reduceAdd, Nat.reduceEqDiff, fillL, setL, Nat.reduceLeDiff, f7, f8, f10, hil, hcs', z1, z2]
        rw [← ecs]
        refine ⟨hE4.on _, ?_⟩
        refine w_call (put) ?_
        rintro _ H5 ⟨rfl, hk5, L5, M5, G5, v5, hW5, hT5, hG5, -, hsame⟩
        simp (disch := omega) only [↓l_nil, ↓l_f, ↓l_t, ↓o_s, ↓o_e, ↓o_g, ↓o_ge, ↓k_ld, ↓k_ldn, isemS, ↓wD, ↓i_cbs, ↓i_csk, wU, b_and, b_or, b_shl, b_shr, Nat.reduceBEq, reduceCtorEq, Int.reduceEq, Int.reduceLT, Int.reduceLE, Int.reduceNeg, Value.cells, Value.oneCell', Nat.reduceAdd, Nat.reduceEqDiff, fillL, setL, Nat.reduceLeDiff, ]
        refine ⟨⟨hk5.1, fun x hx hxb => hk5.2 x hx (by subst hxb; exact hbM)⟩, ?_⟩
        refine hK _ _ ?_
        clear hK K
        repeat (first | with_reducible refine q_n ?_ | with_reducible refine q_e ?_ | with_reducible refine q_r ?_ | with_reducible refine bq_n ?_ | with_reducible refine bq_e ?_ | with_reducible refine bq_r ?_ | with_reducible refine bq_o rfl ?_)
        obtain ⟨q1, q2⟩ := after H5 L5 M5 G5 v5 hk5 hT5 (hsame (by decide)) hG5
        exact ⟨(by simp only [ev_tmp, ev_const, upd_apply, Nat.reduceBEq, cond_true, cond_false, ]), (by simp only [ev_tmp, ev_const, upd_apply, Nat.reduceBEq, cond_true, cond_false, f1]), (by simp only [ev_tmp, ev_const, upd_apply, Nat.reduceBEq, cond_true, cond_false, f5]), (by simp only [ev_tmp, ev_const, upd_apply, Nat.reduceBEq, cond_true, cond_false, f7]), (by simp only [ev_tmp, ev_const, upd_apply, Nat.reduceBEq, cond_true, cond_false, f8]), q1, q2, (by simp only [ev_tmp, ev_const, upd_apply, Nat.reduceBEq, cond_true, cond_false, f10]), (by simp only [ev_tmp, ev_const, upd_apply, Nat.reduceBEq, cond_true, cond_false, f9])⟩
      · obtain ⟨j, hj⟩ : ∃ j, i = j + 1 := ⟨i - 1, by omega⟩
        have hjl : j < L.length := by omega
        obtain ⟨bj, oj, ebj, -, csj, hcsj, hej⟩ := hel j hjl
        simp only [Option.some.injEq, Addr.mk.injEq, and_true] at ebj
        obtain ⟨rfl, rfl⟩ := ebj
        obtain ⟨ya, yr, eyj, -⟩ := hej
        have hcj := rdn_block (hkR b hRb hb3.2) hcsj
        rw [eyj] at hcj
        have cj := (rdn7 hcj).1
        have hsl' : sless L[j].key L[i].key = true := hW.sorted.get hjl hil (by omega)
        have z1 : ((0 : Int) < (i : Int)) = True := by simp; omega
        have z2 : (0 < i) = True := by simp; omega
        have z3 : (i : Int) - 1 = (j : Int) := by omega
        simp (disch := omega) only [↓l_nil, ↓l_f, ↓l_t, ↓o_s, ↓o_e, ↓o_g, ↓o_ge, ↓k_ld, ↓k_ldn, isemS, ↓wD, ↓i_cbs, ↓i_csk, wU, b_and, b_or, b_shl, b_shr, Nat.reduceBEq, reduceCtorEq, Int.reduceEq, Int.reduceLT, Int.reduceLE, Int.reduceNeg, Value.cells, Value.oneCell', Nat.reduceAdd, Nat.reduceEqDiff, fillL, setL, Nat.reduceLeDiff, f7, f8, f10, hil, hjl, hcs', z1, z2, z3, c0, cj, hsl']
        rw [← ecs]
        refine ⟨hE4.on _, ?_⟩
        refine w_call (put) ?_
        rintro _ H5 ⟨rfl, hk5, L5, M5, G5, v5, hW5, hT5, hG5, -, hsame⟩
        simp (disch := omega) only [↓l_nil, ↓l_f, ↓l_t, ↓o_s, ↓o_e, ↓o_g, ↓o_ge, ↓k_ld, ↓k_ldn, isemS, ↓wD, ↓i_cbs, ↓i_csk, wU, b_and, b_or, b_shl, b_shr, Nat.reduceBEq, reduceCtorEq, Int.reduceEq, Int.reduceLT, Int.reduceLE, Int.reduceNeg, Value.cells, Value.oneCell', Nat.reduceAdd, Nat.reduceEqDiff, fillL, setL, Nat.reduceLeDiff, ]
        refine ⟨⟨hk5.1, fun x hx hxb => hk5.2 x hx (by subst hxb; exact hbM)⟩, ?_⟩
        refine hK _ _ ?_
        clear hK K
        repeat (first | with_reducible refine q_n ?_ | with_reducible refine q_e ?_ | with_reducible refine q_r ?_ | with_reducible refine bq_n ?_ | with_reducible refine bq_e ?_ | with_reducible refine bq_r ?_ | with_reducible refine bq_o rfl ?_)
        obtain ⟨q1, q2⟩ := after H5 L5 M5 G5 v5 hk5 hT5 (hsame (by decide)) hG5
        exact ⟨(by simp only [ev_tmp, ev_const, upd_apply, Nat.reduceBEq, cond_true, cond_false, ]), (by simp only [ev_tmp, ev_const, upd_apply, Nat.reduceBEq, cond_true, cond_false, f1]), (by simp only [ev_tmp, ev_const, upd_apply, Nat.reduceBEq, cond_true, cond_false, f5]), (by simp only [ev_tmp, ev_const, upd_apply, Nat.reduceBEq, cond_true, cond_false, f7]), (by simp only [ev_tmp, ev_const, upd_apply, Nat.reduceBEq, cond_true, cond_false, f8]), q1, q2, (by simp only [ev_tmp, ev_const, upd_apply, Nat.reduceBEq, cond_true, cond_false, f10]), (by simp only [ev_tmp, ev_const, upd_apply, Nat.reduceBEq, cond_true, cond_false, f9])⟩
    rintro g H5 ⟨g63, g1, g5, g7, g8, hk5, hT5, g10, g9⟩
    refine w_false (by simp only [ev_tmp, ev_const, upd_apply, Nat.reduceBEq, cond_true, cond_false, Bool.not_true, Bool.not_false, g63]) ?_
    refine w_skip ?_
    repeat (first | with_reducible refine q_n ?_ | with_reducible refine q_e ?_ | with_reducible refine q_r ?_ | with_reducible refine bq_n ?_ | with_reducible refine bq_e ?_ | with_reducible refine bq_r ?_ | with_reducible refine bq_o rfl ?_)
    have hcs5 := rdn_block (hk5.2 b hb3.2 ⟨fun hm => by have := hMlt b hm; omega, by omega⟩) hcs
    rw [ecs] at hcs5
    have k0 := (rdn7 hcs5).1
    have hcnt : (L.take (i + 1)).countP (fun h => decide (h.key = key)) = (L.take i).countP (fun h => decide (h.key = key)) + if L[i].key = key then 1 else 0 := by
      rw [htake, List.countP_append]
      simp
    have hcle : (L.take i).countP (fun h => decide (h.key = key)) ≤ L.length := Nat.le_trans List.countP_le_length (by rw [List.length_take]; omega)
    by_cases hkey : L[i].key = key
    · have hT1 : (L[i].key = key) = True := eq_true hkey
      rw [if_pos hkey] at hcnt
      refine w_seq ?_
      refine w_reg fun K hK => ?_
      simp (disch := omega) only [↓wD, ↓i_cbs, ↓i_csk, wU, b_and, b_or, b_shl, b_shr, Nat.reduceBEq, reduceCtorEq, Int.reduceEq, Int.reduceLT, Int.reduceLE, Int.reduceNeg, Value.cells, Value.oneCell', Nat.reduceAdd, Nat.reduceEqDiff, fillL, setL, Nat.reduceLeDiff, g1, g8, g10, hil, k0, hT1]
      refine hK _ _ ?_
      clear hK K
      refine w_true (by simp only [ev_tmp, ev_const, upd_apply, Nat.reduceBEq, cond_true, cond_false, Bool.not_true, Bool.not_false, ]) ?_
      refine w_reg1 fun K hK => ?_
      simp (disch := omega) only [↓wD, ↓i_cbs, ↓i_csk, wU, b_and, b_or, b_shl, b_shr, Nat.reduceBEq, reduceCtorEq, Int.reduceEq, Int.reduceLT, Int.reduceLE, Int.reduceNeg, Value.cells, Value.oneCell', Nat.reduceAdd, Nat.reduceEqDiff, fillL, setL, Nat.reduceLeDiff, g9]
      refine hK _ _ ?_
      clear hK K
      repeat (first | with_reducible refine q_n ?_ | with_reducible refine q_e ?_ | with_reducible refine q_r ?_ | with_reducible refine bq_n ?_ | with_reducible refine bq_e ?_ | with_reducible refine bq_r ?_ | with_reducible refine bq_o rfl ?_)
      refine w_reg1 fun K hK => ?_
      simp (disch := omega) only [↓wD, ↓i_cbs, ↓i_csk, wU, b_and, b_or, b_shl, b_shr, Nat.reduceBEq, reduceCtorEq, Int.reduceEq, Int.reduceLT, Int.reduceLE, Int.reduceNeg, Value.cells, Value.oneCell', Nat.reduceAdd, Nat.reduceEqDiff, fillL, setL, Nat.reduceLeDiff, g10]
      refine hK _ _ ?_
      clear hK K
      repeat (first | with_reducible refine q_n ?_ | with_reducible refine q_e ?_ | with_reducible refine q_r ?_ | with_reducible refine bq_n ?_ | with_reducible refine bq_e ?_ | with_reducible refine bq_r ?_ | with_reducible refine bq_o rfl ?_)
      exact ⟨L.length - (i + 1), by omega, (by simp only [ev_tmp, ev_const, upd_apply, Nat.reduceBEq, cond_true, cond_false, g1]), (by simp only [ev_tmp, ev_const, upd_apply, Nat.reduceBEq, cond_true, cond_false, g5]), (by simp only [ev_tmp, ev_const, upd_apply, Nat.reduceBEq, cond_true, cond_false, g7]), (by simp only [ev_tmp, ev_const, upd_apply, Nat.reduceBEq, cond_true, cond_false, g8]), hk5, hT5, i + 1, (by simp only [ev_tmp, ev_const, upd_apply, Nat.reduceBEq, cond_true, cond_false, ]), by omega, by simp only [ev_tmp, ev_const, upd_apply, Nat.reduceBEq, cond_true, cond_false]; rw [hcnt], rfl⟩
    · have hT1 : (L[i].key = key) = False := eq_false hkey
      rw [if_neg hkey] at hcnt
      refine w_seq ?_
      refine w_reg fun K hK => ?_
      simp (disch := omega) only [↓wD, ↓i_cbs, ↓i_csk, wU, b_and, b_or, b_shl, b_shr, Nat.reduceBEq, reduceCtorEq, Int.reduceEq, Int.reduceLT, Int.reduceLE, Int.reduceNeg, Value.cells, Value.oneCell', Nat.reduceAdd, Nat.reduceEqDiff, fillL, setL, Nat.reduceLeDiff, g1, g8, g10, hil, k0, hT1]
      refine hK _ _ ?_
      clear hK K
      refine w_false (by simp only [ev_tmp, ev_const, upd_apply, Nat.reduceBEq, cond_true, cond_false, Bool.not_true, Bool.not_false, ]) ?_
      refine w_skip ?_
      repeat (first | with_reducible refine q_n ?_ | with_reducible refine q_e ?_ | with_reducible refine q_r ?_ | with_reducible refine bq_n ?_ | with_reducible refine bq_e ?_ | with_reducible refine bq_r ?_ | with_reducible refine bq_o rfl ?_)
      refine w_reg1 fun K hK => ?_
      simp (disch := omega) only [↓wD, ↓i_cbs, ↓i_csk, wU, b_and, b_or, b_shl, b_shr, Nat.reduceBEq, reduceCtorEq, Int.reduceEq, Int.reduceLT, Int.reduceLE, Int.reduceNeg, Value.cells, Value.oneCell', Nat.reduceAdd, Nat.reduceEqDiff, fillL, setL, Nat.reduceLeDiff, g10]
      refine hK _ _ ?_
      clear hK K
      repeat (first | with_reducible refine q_n ?_ | with_reducible refine q_e ?_ | with_reducible refine q_r ?_ | with_reducible refine bq_n ?_ | with_reducible refine bq_e ?_ | with_reducible refine bq_r ?_ | with_reducible refine bq_o rfl ?_)
      exact ⟨L.length - (i + 1), by omega, (by simp only [ev_tmp, ev_const, upd_apply, Nat.reduceBEq, cond_true, cond_false, g1]), (by simp only [ev_tmp, ev_const, upd_apply, Nat.reduceBEq, cond_true, cond_false, g5]), (by simp only [ev_tmp, ev_const, upd_apply, Nat.reduceBEq, cond_true, cond_false, g7]), (by simp only [ev_tmp, ev_const, upd_apply, Nat.reduceBEq, cond_true, cond_false, g8]), hk5, hT5, i + 1, (by simp only [ev_tmp, ev_const, upd_apply, Nat.reduceBEq, cond_true, cond_false, ]), by omega, by simp only [ev_tmp, ev_const, upd_apply, Nat.reduceBEq, cond_true, cond_false, g9]; rw [hcnt, Nat.add_zero], rfl⟩
  · refine w_reg fun K hK => ?_
    simp (disch := omega) only [↓wD, ↓i_cbs, ↓i_csk, wU, b_and, b_or, b_shl, b_shr, Nat.reduceBEq, reduceCtorEq, Int.reduceEq, Int.reduceLT, Int.reduceLE, Int.reduceNeg, Value.cells, Value.oneCell', Nat.reduceAdd, Nat.reduceEqDiff, fillL, setL, Nat.reduceLeDiff, f8, f10, hil]
    refine hK _ _ ?_
    clear hK K
    refine w_false (by simp only [ev_tmp, ev_const, upd_apply, Nat.reduceBEq, cond_true, cond_false, Bool.not_true, Bool.not_false, ]) ?_
    refine w_exit ?_
    repeat (first | with_reducible refine q_n ?_ | with_reducible refine q_e ?_ | with_reducible refine q_r ?_ | with_reducible refine bq_n ?_ | with_reducible refine bq_e ?_ | with_reducible refine bq_r ?_ | with_reducible refine bq_o rfl ?_)
    have hfull : L.take i = L := List.take_of_length_le (by omega)
    rw [hfull, cnt_eq hW.sorted] at f9
    have hs3 := hKp.1
    have hHn : ∀ j, cell H' H.size j = cell H3 H.size j := fun j => cell_block (hKp.2 H.size (by omega) ⟨fun hm => by have := hlo _ (.inl hm); omega, by omega⟩) j
    have hEH : Ext H H' := ⟨by omega, fun x hx => by rw [hKp.2 x (by omega) ⟨fun hm => by have := hlo _ (.inl hm); omega, by omega⟩, hE03.2 x hx]⟩
    obtain ⟨n0, n1⟩ := rdn2 hrn3
    rw [← hHn] at n0 n1
    have hlo' : ∀ x, M' x ∨ G' x → p ≤ x := by
      rintro x (hx | hx)
      · rcases hGr.1 x hx with h | h
        · exact hlo x (.inl h)
        · omega
      · rcases hGr.2 x hx with h | h
        · exact hlo x (.inr h)
        · omega
    have hHp : H.size < p := by rw [← hpe]; exact hnlt1
    clear hel hsl hkR hGr hKp hHn hR hT hT3 hlo hMlt hE1 hE2 hE3 hrn hrn1 hrn2 hrn3 hv
    -- the key's hold; who holds it
    refine w_reg fun K hK => ?_
    simp (disch := omega) only [↓wD, ↓i_cbs, ↓i_csk, wU, b_and, b_or, b_shl, b_shr, Nat.reduceBEq, reduceCtorEq, Int.reduceEq, Int.reduceLT, Int.reduceLE, Int.reduceNeg, Value.cells, Value.oneCell', Nat.reduceAdd, Nat.reduceEqDiff, fillL, setL, Nat.reduceLeDiff, f1, f7]
    refine w_call (Of_cl key hT' hW.sorted hW.sm) ?_
    rintro _ H5 ⟨hE5, x, cs, Gx, rfl, hex, hGx, hx⟩
    have hex' := hex
    obtain ⟨xva, xvr, ecs, hxa, hxr, -⟩ := hex'
    obtain ⟨xa, xac, rfl, hxac, -⟩ := hxa.form
    obtain ⟨xr, xrc, rfl, hxrc, -⟩ := hxr.form
    rw [ecs]
    simp (disch := omega) only [↓wD, ↓i_cbs, ↓i_csk, wU, b_and, b_or, b_shl, b_shr, Nat.reduceBEq, reduceCtorEq, Int.reduceEq, Int.reduceLT, Int.reduceLE, Int.reduceNeg, Value.cells, Value.oneCell', Nat.reduceAdd, Nat.reduceEqDiff, fillL, setL, Nat.reduceLeDiff, ]
    rw [← ecs]
    refine hK _ _ ?_
    clear hK K
    have hp1 := cell_lt hT'.c0
    have hE6 : Ext H5 (H5.push (.cells cs.toArray 35)) := (Ext.refl _).push _
    have hrx : rdn (H5.push (.cells cs.toArray 35)) H5.size 0 7 = some cs := by rw [rdn_new H5 cs 35 0 7 (by rw [ecs]; exact Nat.le_refl _), ecs]; rfl
    have hb11 : H5.size < (H5.push (.cells cs.toArray 35)).size := by simp
    generalize H5.push (.cells cs.toArray 35) = H6 at hE6 hrx hb11 ⊢
    have hHH : H.size < H'.size := by omega
    have hE56 := hE5.trans hE6
    rw [← hE56.cell _ _ hHH] at n0 n1
    refine w_reg fun K hK => ?_
    simp (disch := omega) only [↓wD, ↓i_cbs, ↓i_csk, wU, b_and, b_or, b_shl, b_shr, Nat.reduceBEq, reduceCtorEq, Int.reduceEq, Int.reduceLT, Int.reduceLE, Int.reduceNeg, Value.cells, Value.oneCell', Nat.reduceAdd, Nat.reduceEqDiff, fillL, setL, Nat.reduceLeDiff, f1, f7, f5, n0, n1]
    have hE7 : Ext H6 (H6.push (.cells #[.string key] 9)) := (Ext.refl _).push _
    refine w_call (Busy_cl n (hT'.ext (hE56.trans hE7)) hW.sorted hW.sm (str1 hk 9)) ?_
    rintro _ H7 ⟨hE8, a, b, rfl, hb⟩
    simp (disch := omega) only [↓wD, ↓i_cbs, ↓i_csk, wU, b_and, b_or, b_shl, b_shr, Nat.reduceBEq, reduceCtorEq, Int.reduceEq, Int.reduceLT, Int.reduceLE, Int.reduceNeg, Value.cells, Value.oneCell', Nat.reduceAdd, Nat.reduceEqDiff, fillL, setL, Nat.reduceLeDiff, ]
    refine hK _ _ ?_
    clear hK K
    have hE9 : Ext H7 (H7.push (.cells #[.int .i64 a.client, .int .i64 a.num] 24)) := (Ext.refl _).push _
    have hr13 : rdn (H7.push (.cells #[.int .i64 a.client, .int .i64 a.num] 24)) H7.size 0 2 = some [.int .i64 a.client, .int .i64 a.num] := rdn_new H7 [_, _] 24 0 2 (Nat.le_refl _)
    generalize H7.push (.cells #[.int .i64 a.client, .int .i64 a.num] 24) = H8 at hE9 hr13 ⊢
    have hE68 := (hE7.trans hE8).trans hE9
    have hE08 := hE56.trans hE68
    have hrx8 := rdn_ext hE68 hrx
    have hHH6 : H.size < H6.size := by have := hE56.size; omega
    rw [← hE68.cell _ _ hHH6] at n0 n1
    obtain ⟨a0, a1⟩ := rdn2 hr13
    obtain ⟨x0, x1, x2, x3, x4, x5, x6⟩ := rdn7 (ecs ▸ hrx8)
    simp only [Nat.zero_add] at x0 x1 x2 x3 x4 x5 x6 a1
    have hT8 := hT'.ext hE08
    refine w_seq ?_
    refine w_cut (fun g H9 => H9 = H8 ∧ g 121 = .bool false ∧ g 12 = .bool (hasK L key) ∧ g 7 = .pointer (some ⟨p, 0, none⟩) ∧ g 1 = .string key ∧ g 8 = .slice aa L.length ac ∧ g 11 = .pointer (some ⟨H5.size, 0, none⟩)) ?_ ?_
    · by_cases hh : hasK L key = true
      · rw [hh] at hx f9 ⊢
        simp only [if_true] at hx f9
        obtain ⟨hxL, rfl⟩ := hx
        rcases hb with ⟨rfl, y, hy, hyk, hne, rfl⟩ | ⟨rfl, -, hall⟩
        · obtain rfl := sorted_unique hW.sorted hy hxL hyk
          have hnn := nm_ne hne
          refine w_reg1 fun K hK => ?_
          simp (disch := omega) only [↓wD, ↓i_cbs, ↓i_csk, wU, b_and, b_or, b_shl, b_shr, Nat.reduceBEq, reduceCtorEq, Int.reduceEq, Int.reduceLT, Int.reduceLE, Int.reduceNeg, Value.cells, Value.oneCell', Nat.reduceAdd, Nat.reduceEqDiff, fillL, setL, Nat.reduceLeDiff, f1, f5, f7, f8, f9, hh, n0, n1, a0, a1, x1, x2, leavesEq, leafEq, hnn, nm_self, cast1, Bool.decide_eq_true]
          refine w_call (Many_cl hT8) ?_
          rintro _ H8 ⟨rfl, rfl⟩
          simp (disch := omega) only [↓wD, ↓i_cbs, ↓i_csk, wU, b_and, b_or, b_shl, b_shr, Nat.reduceBEq, reduceCtorEq, Int.reduceEq, Int.reduceLT, Int.reduceLE, Int.reduceNeg, Value.cells, Value.oneCell', Nat.reduceAdd, Nat.reduceEqDiff, fillL, setL, Nat.reduceLeDiff, f1, f5, f7, f8, f9, cast1]
          refine hK _ _ ?_
          repeat (first | with_reducible refine q_n ?_ | with_reducible refine q_e ?_ | with_reducible refine q_r ?_ | with_reducible refine bq_n ?_ | with_reducible refine bq_e ?_ | with_reducible refine bq_r ?_ | with_reducible refine bq_o rfl ?_)
          exact ⟨rfl, (by simp only [ev_tmp, ev_const, upd_apply, Nat.reduceBEq, cond_true, cond_false, ]), (by simp only [ev_tmp, ev_const, upd_apply, Nat.reduceBEq, cond_true, cond_false, ]), (by simp only [ev_tmp, ev_const, upd_apply, Nat.reduceBEq, cond_true, cond_false, f7]), (by simp only [ev_tmp, ev_const, upd_apply, Nat.reduceBEq, cond_true, cond_false, f1]), (by simp only [ev_tmp, ev_const, upd_apply, Nat.reduceBEq, cond_true, cond_false, f8]), (by simp only [ev_tmp, ev_const, upd_apply, Nat.reduceBEq, cond_true, cond_false, ])⟩
        · have hne := hall x hxL rfl
          have hnn : (decide (x.name.client = n.client) && decide (x.name.num = n.num)) = true := by rw [hne]; exact nm_self
          refine w_reg1 fun K hK => ?_
          simp (disch := omega) only [↓wD, ↓i_cbs, ↓i_csk, wU, b_and, b_or, b_shl, b_shr, Nat.reduceBEq, reduceCtorEq, Int.reduceEq, Int.reduceLT, Int.reduceLE, Int.reduceNeg, Value.cells, Value.oneCell', Nat.reduceAdd, Nat.reduceEqDiff, fillL, setL, Nat.reduceLeDiff, f1, f5, f7, f8, f9, hh, n0, n1, a0, a1, x1, x2, leavesEq, leafEq, hnn, nm_self, cast1, Bool.decide_eq_true]
          refine w_call (Many_cl hT8) ?_
          rintro _ H8 ⟨rfl, rfl⟩
          simp (disch := omega) only [↓wD, ↓i_cbs, ↓i_csk, wU, b_and, b_or, b_shl, b_shr, Nat.reduceBEq, reduceCtorEq, Int.reduceEq, Int.reduceLT, Int.reduceLE, Int.reduceNeg, Value.cells, Value.oneCell', Nat.reduceAdd, Nat.reduceEqDiff, fillL, setL, Nat.reduceLeDiff, f1, f5, f7, f8, f9, cast1]
          refine hK _ _ ?_
          repeat (first | with_reducible refine q_n ?_ | with_reducible refine q_e ?_ | with_reducible refine q_r ?_ | with_reducible refine bq_n ?_ | with_reducible refine bq_e ?_ | with_reducible refine bq_r ?_ | with_reducible refine bq_o rfl ?_)
          exact ⟨rfl, (by simp only [ev_tmp, ev_const, upd_apply, Nat.reduceBEq, cond_true, cond_false, ]), (by simp only [ev_tmp, ev_const, upd_apply, Nat.reduceBEq, cond_true, cond_false, ]), (by simp only [ev_tmp, ev_const, upd_apply, Nat.reduceBEq, cond_true, cond_false, f7]), (by simp only [ev_tmp, ev_const, upd_apply, Nat.reduceBEq, cond_true, cond_false, f1]), (by simp only [ev_tmp, ev_const, upd_apply, Nat.reduceBEq, cond_true, cond_false, f8]), (by simp only [ev_tmp, ev_const, upd_apply, Nat.reduceBEq, cond_true, cond_false, ])⟩
      · have hh : hasK L key = false := by simpa using hh
        rw [hh] at hx f9 ⊢
        simp only [Bool.false_eq_true, if_false] at hx f9
        have hb0 : b = false := by
          rcases hb with ⟨_, y, hy, hyk, _⟩ | ⟨h, _⟩
          · have := hasK_iff.2 ⟨y, hy, hyk⟩
            rw [hh] at this; cases this
          · exact h
        subst hb0
        refine w_reg1 fun K hK => ?_
        simp (disch := omega) only [↓wD, ↓i_cbs, ↓i_csk, wU, b_and, b_or, b_shl, b_shr, Nat.reduceBEq, reduceCtorEq, Int.reduceEq, Int.reduceLT, Int.reduceLE, Int.reduceNeg, Value.cells, Value.oneCell', Nat.reduceAdd, Nat.reduceEqDiff, fillL, setL, Nat.reduceLeDiff, f1, f5, f7, f8, f9, hh, n0, n1, a0, a1, x1, x2, cast0, Bool.decide_eq_true]
        refine w_call (Many_cl hT8) ?_
        rintro _ H8 ⟨rfl, rfl⟩
        simp (disch := omega) only [↓wD, ↓i_cbs, ↓i_csk, wU, b_and, b_or, b_shl, b_shr, Nat.reduceBEq, reduceCtorEq, Int.reduceEq, Int.reduceLT, Int.reduceLE, Int.reduceNeg, Value.cells, Value.oneCell', Nat.reduceAdd, Nat.reduceEqDiff, fillL, setL, Nat.reduceLeDiff, f1, f5, f7, f8, f9, cast0]
        refine hK _ _ ?_
        repeat (first | with_reducible refine q_n ?_ | with_reducible refine q_e ?_ | with_reducible refine q_r ?_ | with_reducible refine bq_n ?_ | with_reducible refine bq_e ?_ | with_reducible refine bq_r ?_ | with_reducible refine bq_o rfl ?_)
        exact ⟨rfl, (by simp only [ev_tmp, ev_const, upd_apply, Nat.reduceBEq, cond_true, cond_false, ]), (by simp only [ev_tmp, ev_const, upd_apply, Nat.reduceBEq, cond_true, cond_false, ]), (by simp only [ev_tmp, ev_const, upd_apply, Nat.reduceBEq, cond_true, cond_false, f7]), (by simp only [ev_tmp, ev_const, upd_apply, Nat.reduceBEq, cond_true, cond_false, f1]), (by simp only [ev_tmp, ev_const, upd_apply, Nat.reduceBEq, cond_true, cond_false, f8]), (by simp only [ev_tmp, ev_const, upd_apply, Nat.reduceBEq, cond_true, cond_false, ])⟩
    clear hb f1 f5 f7 f8 f9 f10 a0 a1 n0 n1 hr13
    clear f
    rintro f H8 ⟨rfl, f121, f12, f7, f1, f8, f11⟩
    refine w_false (by simp only [ev_tmp, ev_const, upd_apply, Nat.reduceBEq, cond_true, cond_false, Bool.not_true, Bool.not_false, f121]) ?_
    refine w_skip ?_
    repeat (first | with_reducible refine q_n ?_ | with_reducible refine q_e ?_ | with_reducible refine q_r ?_ | with_reducible refine bq_n ?_ | with_reducible refine bq_e ?_ | with_reducible refine bq_r ?_ | with_reducible refine bq_o rfl ?_)
    refine w_seq (w_seq ?_)
    refine w_reg fun K hK => ?_
    simp (disch := omega) only [↓wD, ↓i_cbs, ↓i_csk, wU, b_and, b_or, b_shl, b_shr, Nat.reduceBEq, reduceCtorEq, Int.reduceEq, Int.reduceLT, Int.reduceLE, Int.reduceNeg, Value.cells, Value.oneCell', Nat.reduceAdd, Nat.reduceEqDiff, fillL, setL, Nat.reduceLeDiff, f12]
    refine hK _ _ ?_
    clear hK K
    by_cases hh : hasK L key = true
    · rw [hh] at hx f12
      simp only [if_true] at hx
      obtain ⟨hxL, rfl⟩ := hx
      refine w_false (by simp only [ev_tmp, ev_const, upd_apply, Nat.reduceBEq, cond_true, cond_false, Bool.not_true, Bool.not_false, hh]) ?_
      refine w_skip ?_
      repeat (first | with_reducible refine q_n ?_ | with_reducible refine q_e ?_ | with_reducible refine q_r ?_ | with_reducible refine bq_n ?_ | with_reducible refine bq_e ?_ | with_reducible refine bq_r ?_ | with_reducible refine bq_o rfl ?_)
      have hdl : ∀ y, M' y → y < H8.size := fun y hy => hT8.lt y (.inl hy)
      have hp8 : p < H8.size := cell_lt hT8.c0
      have hrt := (right_reName (hW.right x hxL))
      have hmod : x.name.client.tmod 8 = x.name.client % 8 := Int.tmod_eq_emod_of_nonneg (by omega)
      have hb8 : H5.size < H8.size := cell_lt x0
      refine w_reg fun K hK => ?_
      simp (disch := omega) only [↓wD, ↓i_cbs, ↓i_csk, wU, b_and, b_or, b_shl, b_shr, Nat.reduceBEq, reduceCtorEq, Int.reduceEq, Int.reduceLT, Int.reduceLE, Int.reduceNeg, Value.cells, Value.oneCell', Nat.reduceAdd, Nat.reduceEqDiff, fillL, setL, Nat.reduceLeDiff, f11, x0, x1, x2, x3, x4, x5, x6]
      refine hK _ _ ?_
      clear hK K
      refine w_reg fun K hK => ?_
      simp (disch := omega) only [↓wD, ↓i_cbs, ↓i_csk, wU, b_and, b_or, b_shl, b_shr, Nat.reduceBEq, reduceCtorEq, Int.reduceEq, Int.reduceLT, Int.reduceLE, Int.reduceNeg, Value.cells, Value.oneCell', Nat.reduceAdd, Nat.reduceEqDiff, fillL, setL, Nat.reduceLeDiff, f11, x0, x1, hmod]
      refine hK _ _ ?_
      clear hK K
      obtain ⟨cs', ecs'⟩ : ∃ c : List Value, c = [.string x.key, .int .i64 (1 + x.name.client % 8), .int .i64 1, .slice xa x.acts.length xac, .slice xr x.reads.length xrc, .bool x.put, .string x.value] := ⟨_, rfl⟩
      rw [← ecs']
      have hE10 : Ext H8 (H8.push (.cells cs'.toArray 35)) := (Ext.refl _).push _
      have hr15 : rdn (H8.push (.cells cs'.toArray 35)) H8.size 0 7 = some cs' := by rw [rdn_new H8 cs' 35 0 7 (by rw [ecs']; exact Nat.le_refl _), ecs']; rfl
      have hb15 : H8.size < (H8.push (.cells cs'.toArray 35)).size := by simp
      generalize H8.push (.cells cs'.toArray 35) = H10 at hE10 hr15 hb15 ⊢
      have hE58 := hE6.trans hE68
      have hr11 := rdn_ext (hE68.trans hE10) hrx
      have hT10 := hT8.ext hE10
      have hE11 : Ext H10 (H10.push (.cells #[.string x.key] 9)) := (Ext.refl _).push _
      have hs56 := hE5.size
      have hMp : ∀ y, M' y → y < H'.size := fun y hy => hT'.lt y (.inl hy)
      refine w_reg fun K hK => ?_
      simp (disch := omega) only [↓wD, ↓i_cbs, ↓i_csk, wU, b_and, b_or, b_shl, b_shr, Nat.reduceBEq, reduceCtorEq, Int.reduceEq, Int.reduceLT, Int.reduceLE, Int.reduceNeg, Value.cells, Value.oneCell', Nat.reduceAdd, Nat.reduceEqDiff, fillL, setL, Nat.reduceLeDiff, f7, f1]
      refine w_call (Free_cl (hT10.ext hE11) hW.sm (str1 hk 9) (fun x hx hm => by have := hT10.lt x (.inl hm); omega)) ?_
      rintro _ H12 ⟨⟨Mf, Gf, hfd, hfr, hrow⟩, hkp, v'', hT12⟩
      rename_i vf
      rw [fkey_one hW.sorted hxL rfl] at hrow
      obtain ⟨fa, fc, rfl, -, -, hfel⟩ := SlP.open (hrow.slp (by unfold big; simp))
      obtain ⟨bf, bo, rfl, hbf, csf, hcsf, hef⟩ := hfel 0 (by simp)
      have hfb := hfr bf hbf
      simp only [List.getElem_cons_zero, List.length_cons, List.length_nil, Nat.zero_add] at hef ⊢
      simp (disch := omega) only [↓wD, ↓i_cbs, ↓i_csk, wU, b_and, b_or, b_shl, b_shr, Nat.reduceBEq, reduceCtorEq, Int.reduceEq, Int.reduceLT, Int.reduceLE, Int.reduceNeg, Value.cells, Value.oneCell', Nat.reduceAdd, Nat.reduceEqDiff, fillL, setL, Nat.reduceLeDiff, ]
      refine hK _ _ ?_
      clear hK K
      have hs11 := hE11.size
      have hr11' := rdn_block (hkp.2 H5.size (by omega) ⟨fun hm => by have := hMp _ hm; omega, by omega⟩) (rdn_ext hE11 hr11)
      have hr15' := rdn_block (hkp.2 H8.size (by omega) ⟨fun hm => by have := hMp _ hm; omega, by omega⟩) (rdn_ext hE11 hr15)
      have hef' := hef
      obtain ⟨yva, yvr, ecsf, -⟩ := hef'
      obtain ⟨y0, y1, y2, y3, y4, y5, y6⟩ := rdn7 (ecsf ▸ hcsf)
      obtain ⟨z0, z1, z2, z3, z4, z5, z6⟩ := rdn7 (ecs ▸ hr11')
      simp only [Nat.zero_add, Nat.add_zero, Nat.zero_mul] at y0 y1 y2 y3 y4 y5 y6 z0 z1 z2 z3 z4 z5 z6
      have hkG : ∀ y, Gx y → y < H5.size → H12[y]? = H5[y]? := fun y hy hy' => by
        have := hGx y hy
        rw [hkp.2 y (by omega) ⟨fun hm => by have := hMp _ hm; omega, by omega⟩, hE11.2 y (by omega), hE10.2 y (by omega), hE58.2 y hy']
      have hxs : ElHd Gx H12 cs x := hex.mono (fun _ h => h) hkG
      have hno := right_reName (hW.right x hxL)
      have hxs' : ElHd Gx H12 cs' (reName x) := by
        obtain ⟨_, _, _, -, -, h1, h2, h3⟩ := hxs
        refine ⟨_, _, ?_, hxa.mono (fun _ h => h) hkG fun _ _ _ h => h, hxr.mono (fun _ h => h) hkG fun _ _ _ h => h, ⟨?_, i64_1⟩, h2, h3⟩
        · rw [ecs']; simp only [reName, hmod]
        · simp only [reName, hmod]; unfold I64; omega
      refine w_lin (fun y => y = bf ∨ y = H5.size ∨ y = H8.size) fun K hK => ?_
      simp (disch := omega) only [↓l_nil, ↓l_f, ↓l_t, ↓o_s, ↓o_e, ↓o_g, ↓o_ge, ↓k_ld, ↓k_ldn, isemS, ↓wD, ↓i_cbs, ↓i_csk, wU, b_and, b_or, b_shl, b_shr, Nat.reduceBEq, reduceCtorEq, Int.reduceEq, Int.reduceLT, Int.reduceLE, Int.reduceNeg, Value.cells, Value.oneCell', Nat.reduceAdd, Nat.reduceEqDiff, fillL, setL, Nat.reduceLeDiff, f11, y0, y1, y2, y3, y4, y5, y6, z0, z1, z2, z3, z4, z5, z6, true_or, or_true, Int.reduceToNat, cast1]
      rw [← ecsf, ← ecs]
      refine w_call (SameHold_cl hef hxs) ?_
      rintro _ H13 ⟨rfl, hE13⟩
      obtain ⟨w0, w1, w2, w3, w4, w5, w6⟩ := rdn7 (ecs' ▸ rdn_ext hE13 hr15')
      simp only [Nat.zero_add] at w0 w1 w2 w3 w4 w5 w6
      simp (disch := omega) only [↓l_nil, ↓l_f, ↓l_t, ↓o_s, ↓o_e, ↓o_g, ↓o_ge, ↓k_ld, ↓k_ldn, isemS, ↓wD, ↓i_cbs, ↓i_csk, wU, b_and, b_or, b_shl, b_shr, Nat.reduceBEq, reduceCtorEq, Int.reduceEq, Int.reduceLT, Int.reduceLE, Int.reduceNeg, Value.cells, Value.oneCell', Nat.reduceAdd, Nat.reduceEqDiff, fillL, setL, Nat.reduceLeDiff, w0, w1, w2, w3, w4, w5, w6, f7, true_or, or_true]
      rw [← ecs']
      have hE14 : Ext H13 (H13.push (.cells cs'.toArray 35)) := (Ext.refl _).push _
      refine ⟨hE14.on _, ?_⟩
      have hs14 := hE14.size
      have hs10 := hE10.size
      have hs12' := hkp.1
      have hs13 := hE13.size
      have hbfM : ∀ y, H'.size ≤ y → ¬ M' y ∧ y ≠ p := fun y hy => ⟨fun hm => by have := hMp y hm; omega, by omega⟩
      have put := Put_cl (hT12.ext (hE13.trans hE14)) (hW.filter _) ((hxs'.ext hE13).sl1 35) (fun x hx => hbfM x (by
        rcases hx with hx | hx
        · exact (hGx x hx).1
        · omega))
      rw [put_free hW hxL] at put
      refine w_call (put) ?_
      rintro _ H15 ⟨rfl, hk5, L5, M5, G5, v5, hW5, hT5, hG5, hin, -⟩
      have hL5 : L5.length = L.length := by
        have h1 := (hin rfl).2
        have h2 := fkey_rest (key := x.key) hW.sorted
        rw [hh, if_pos rfl] at h2
        simp only [List.length_cons, List.length_nil] at h1
        omega
      simp (disch := omega) only [↓l_nil, ↓l_f, ↓l_t, ↓o_s, ↓o_e, ↓o_g, ↓o_ge, ↓k_ld, ↓k_ldn, isemS, ↓wD, ↓i_cbs, ↓i_csk, wU, b_and, b_or, b_shl, b_shr, Nat.reduceBEq, reduceCtorEq, Int.reduceEq, Int.reduceLT, Int.reduceLE, Int.reduceNeg, Value.cells, Value.oneCell', Nat.reduceAdd, Nat.reduceEqDiff, fillL, setL, Nat.reduceLeDiff, f7, f8]
      refine ⟨⟨hk5.1, fun y hy hyS => hk5.2 y hy (hbfM y (by omega))⟩, ?_⟩
      refine w_call (Many_cl hT5) ?_
      rintro _ H15 ⟨rfl, rfl⟩
      simp (disch := omega) only [↓l_nil, ↓l_f, ↓l_t, ↓o_s, ↓o_e, ↓o_g, ↓o_ge, ↓k_ld, ↓k_ldn, isemS, ↓wD, ↓i_cbs, ↓i_csk, wU, b_and, b_or, b_shl, b_shr, Nat.reduceBEq, reduceCtorEq, Int.reduceEq, Int.reduceLT, Int.reduceLE, Int.reduceNeg, Value.cells, Value.oneCell', Nat.reduceAdd, Nat.reduceEqDiff, fillL, setL, Nat.reduceLeDiff, hL5]
      refine ⟨KeepOn.refl _ _, ?_⟩
      refine hK _ _ ?_
      clear hK K
      refine w_ret ?_
      repeat (first | with_reducible refine q_n ?_ | with_reducible refine q_e ?_ | with_reducible refine q_r ?_ | with_reducible refine bq_n ?_ | with_reducible refine bq_e ?_ | with_reducible refine bq_r ?_ | with_reducible refine bq_o rfl ?_)
      refine ret1 (by (try simp only [ev_tmp, ev_const, upd_apply, Nat.reduceBEq, cond_true, cond_false, ]); rfl) ?_
      have hlow : ∀ b, b < H.size → ¬ M' b ∧ b ≠ p := fun b hb => ⟨fun hm => by have := hlo' b (.inl hm); omega, by omega⟩
      exact ⟨rfl, hk5.low ((hkp.low (((hEH.trans hE08).trans hE10).trans hE11) hlow).trans (hE13.trans hE14)) hlow⟩
    · have hh : hasK L key = false := by simpa using hh
      refine w_true (by simp only [ev_tmp, ev_const, upd_apply, Nat.reduceBEq, cond_true, cond_false, Bool.not_true, Bool.not_false, hh]) ?_
      have hE10 : Ext H8 (H8.push (.cells #[.string key] 9)) := (Ext.refl _).push _
      have hfl := fkey_len (key := key) hW.sorted
      rw [hh] at hfl
      simp only [Bool.false_eq_true, if_false] at hfl
      refine w_reg fun K hK => ?_
      simp (disch := omega) only [↓wD, ↓i_cbs, ↓i_csk, wU, b_and, b_or, b_shl, b_shr, Nat.reduceBEq, reduceCtorEq, Int.reduceEq, Int.reduceLT, Int.reduceLE, Int.reduceNeg, Value.cells, Value.oneCell', Nat.reduceAdd, Nat.reduceEqDiff, fillL, setL, Nat.reduceLeDiff, f7, f1]
      refine w_call (Free_cl (hT8.ext hE10) hW.sm (str1 hk 9) (fun x hx hm => by have := hT8.lt x (.inl hm); omega)) ?_
      rintro _ H10 ⟨⟨Mf, Gf, -, -, hrow⟩, hkp, v'', hT10⟩
      obtain ⟨fa, fc, rfl, -⟩ := hrow.form
      simp (disch := omega) only [↓wD, ↓i_cbs, ↓i_csk, wU, b_and, b_or, b_shl, b_shr, Nat.reduceBEq, reduceCtorEq, Int.reduceEq, Int.reduceLT, Int.reduceLE, Int.reduceNeg, Value.cells, Value.oneCell', Nat.reduceAdd, Nat.reduceEqDiff, fillL, setL, Nat.reduceLeDiff, hfl, cast0]
      refine hK _ _ ?_
      clear hK K
      refine w_ret ?_
      repeat (first | with_reducible refine q_n ?_ | with_reducible refine q_e ?_ | with_reducible refine q_r ?_ | with_reducible refine bq_n ?_ | with_reducible refine bq_e ?_ | with_reducible refine bq_r ?_ | with_reducible refine bq_o rfl ?_)
      refine ret1 (by (try simp only [ev_tmp, ev_const, upd_apply, Nat.reduceBEq, cond_true, cond_false, ]); rfl) ?_
      exact ⟨rfl, hkp.low (hEH.trans (hE08.trans hE10)) fun b hb => ⟨fun hm => by have := hlo' b (.inl hm); omega, by omega⟩⟩
end Go.WK
