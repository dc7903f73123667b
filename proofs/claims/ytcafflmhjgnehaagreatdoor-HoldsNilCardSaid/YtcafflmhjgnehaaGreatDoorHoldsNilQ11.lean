/-
  HoldsNil of the layer holds: for every input the law's function returns true and its arguments read as before; conditions: the listed tables hold what the program's text lays. Part 12 of 13.
-/
import Derived.Test.YtcafflmhjgnehaaGreatDoorHoldsNilQ8
import Derived.Test.YtcafflmhjgnehaaGreatDoorHoldsNilQ4
import Derived.RangeFuncBox
import Derived.RangeFuncLeaves
import Derived.RangeFuncNested
import Derived.RangeFuncBound
import Derived.RangeFuncCalls
import Derived.Shelf.Abstract
import Derived.WalkKit
import Derived.OwnWalkIn
import Derived.TacticsInMore
import Derived.LoopNIn
import Derived.LoopIn
import Derived.Test.YtcafflmhjgnehaaGreatDoorHoldsNilQ6
set_option linter.unusedSimpArgs false
set_option linter.unusedVariables false
set_option linter.defProp false
set_option maxRecDepth 100000
/-
  Sorted texts: by the shelf.
-/
namespace Go.Proofs
open Go.RowKit Go.Maps Go.Sort Go.Shelf
theorem Tryz.sortsS (m : Nat) : AnyZ.SortsIn Tryz.prog Tryz.sortedS_ren Fence.wide m :=
  ⟨fun blk off cap ss W hH hblk hsz => callsIn_wide.2 (AnyM.slices_Sort_string Tryz.sortS blk off cap ss W hH hblk hsz),
   fun p cap W => callsIn_wide.2 (AnyM.slices_Sort_string_none Tryz.sortS p cap W)⟩

attribute [local go_sem] Oper.semAt_some
set_option maxRecDepth 100000 in
set_option maxHeartbeats 2000000 in
/-- slices.Values's closure at a slice of one text. -/
theorem Tryz.values_one (Bs b off cap : Nat) (x : List UInt8) (w : World) (hB : Bs < w.heap.size) (hb : b < w.heap.size) (hBs : w.cell? ⟨Bs, 0, none⟩ = some (.slice (some ⟨b, off, none⟩) 1 cap)) (hc : w.cell? ⟨b, off, none⟩ = some (encStr x)) :
    SeqGives Fence.wide 2 Tryz.prog 112 #[.pointer (some ⟨Bs, 0, none⟩)] encStr (fun ys => ys = [x]) 1 w := fun l J W hW hJ hY h0 => by
  have hBs' := (hW.cell (p := ⟨Bs, 0, none⟩) hB).trans hBs
  have hc' := (hW.cell (p := ⟨b, off, none⟩) hb).trans hc
  refine callsIn_of_wp Tryz.func112 rfl trivial ?_ rfl
  simp only [Tryz.ntmps112, List.size_toArray, List.length_cons, List.length_nil, Nat.reduceAdd, Nat.reduceSub, Array.replicate_succ, Array.replicate_zero, List.push_toArray, List.append_toArray, List.nil_append, List.cons_append]
  gi_wp2
  gi_loopw [7] (fun i wr => (i = .int .i64 0 ∧ wr = W) ∨ (i = .int .i64 1 ∧ J [x] wr)) (fun i _ => 1 - (intOf i).toNat)
  case atStart => exact .inl ⟨rfl, rfl⟩
  case round =>
    rcases hrel with ⟨rfl, rfl⟩ | ⟨rfl, hJs⟩
    · obtain ⟨fn, tmps, assign, body, hy, hR⟩ := hY [] x wr h0 (by decide)
      gi_wp2
      refine hR.mono ?_
      rintro e W3 ⟨rfl, hJ3, hk3⟩
      gi_wp2
      go_roundw
      case rel => exact .inr ⟨by simp, hJ3⟩
      case measure => simp [intOf]
    · gi_wp2
      go_end0
      exact ⟨⟨_, rfl⟩, _, rfl, hJs⟩

end Go.Proofs
namespace Go.WK
open Go Go.Proofs
/-- One text, sorted. -/
theorem sorted1_cl {H : Hp} {B b off c : Nat} {x : ByteArray} (hB : cell H B 0 = some (.slice (some ⟨b, off, none⟩) 1 c)) (hx : cell H b off = some (.string x)) (hs : Sz x) :
    Cl Tryz.prog 54 [.func (.func 112) #[] #[.pointer (some ⟨B, 0, none⟩)]] H fun r H' => StrSl (fun y => H.size ≤ y ∧ y < H'.size) H' r [x] ∧ Ext H H' := by
  refine .inl ⟨by kernel_rfl, fun w hw => ?_⟩
  subst hw
  have hseq := Tryz.values_one B b off c x.data.toList w (cell_lt hB) (cell_lt hx) (by rw [cell?_eq]; exact hB) (by rw [cell?_eq, hx]; done)
  have cS := Go.Proofs.AnyZ.sorted_in Tryz.sortedS Fence.wide 5 trivial trivial trivial trivial rfl (by omega) (Tryz.sortsS _) (enters_of Tryz.func111 (by kernel_rfl) rfl) 112 #[.pointer (some ⟨B, 0, none⟩)] trivial (enters_of Tryz.func112 (by kernel_rfl) rfl) _ 1 (by decide) (by decide) _ hseq
  have cS' := callsIn_wide.1 cS
  refine Calls.mono cS' ?_
  rintro e w' ⟨v, ss, rfl, rfl, hrow, hnil, hb⟩
  refine ⟨⟨hb.os, hb.tape, hb.output⟩, v, rfl, ?_, hb.size, fun k hk => hb.block k hk⟩
  rcases hrow.2 with ⟨_, hz⟩ | ⟨g, cap, cur, rfl, hbase, hg, r1, r2, r3, r4⟩
  · cases hz
  have hgl : g < w'.heap.size := (Array.getElem?_eq_some_iff.1 hg).1
  refine ⟨(by decide : (1 : Nat) ≤ big), .inr ⟨g, 0, cap, rfl, r1, fun i hi => ?_⟩⟩
  have hi0 : i = 0 := by simp at hi; omega
  subst hi0
  refine ⟨⟨hbase, hgl⟩, [.string x], ?_, rfl, hs⟩
  refine rdn_of rfl fun j hj => ?_
  have hj0 : j = 0 := by omega
  subst hj0
  have hcur : cur.toList[0]? = some (.string x) := by
    have h1 := congrArg (fun l => l[0]?) r4
    simp only [List.getElem?_take] at h1
    simpa [encStr] using h1
  unfold cell
  rw [hg]
  simpa using hcur
end Go.WK
/-
  Who is busy; the document's example.
-/
namespace Go.WK
open Go Go.Proofs

theorem Values_cl {H : Hp} {a : Option Addr} {n c : Nat} : Cl Tryz.prog 55 [.slice a n c] H fun r H' => r = .func (.func 112) #[] #[.pointer (some ⟨H.size, 0, none⟩)] ∧ H' = H.push (.cells [Value.slice a n c].toArray 74) := by
  refine cl_of mixed c_slices_Values_string (Nat.le_of_ble_eq_true rfl) ?_
  simp only [fwp, ir_slices_Values_string, argF, Nat.reduceAdd]
  refine w_reg fun K hK => ?_
  simp (disch := omega) only [↓wD, wU, Nat.reduceBEq, reduceCtorEq, Int.reduceEq, Int.reduceLT, Int.reduceLE, Int.reduceNeg, Value.cells, Value.oneCell', Nat.reduceAdd, Nat.reduceEqDiff, fillL, setL, Nat.reduceLeDiff, ]
  refine hK _ _ ?_
  clear hK K
  refine w_reg fun K hK => ?_
  simp (disch := omega) only [↓wD, wU, Nat.reduceBEq, reduceCtorEq, Int.reduceEq, Int.reduceLT, Int.reduceLE, Int.reduceNeg, Value.cells, Value.oneCell', Nat.reduceAdd, Nat.reduceEqDiff, fillL, setL, Nat.reduceLeDiff, ]
  refine hK _ _ ?_
  clear hK K
  refine w_ret ?_
  repeat (first | with_reducible refine q_n ?_ | with_reducible refine q_e ?_ | with_reducible refine q_r ?_ | with_reducible refine bq_n ?_ | with_reducible refine bq_e ?_ | with_reducible refine bq_r ?_ | with_reducible refine bq_o rfl ?_)
  refine ret1 (by (try simp only [ev_tmp, ev_const, upd_apply, Nat.reduceBEq, cond_true, cond_false, ]); rfl) ?_
  exact ⟨rfl, rfl⟩
theorem sorted_unique {L : List Hd} (hs : Sorted L) {x y : Hd} (hx : x ∈ L) (hy : y ∈ L) (h : x.key = y.key) : x = y := by
  obtain ⟨i, hi, rfl⟩ := List.getElem_of_mem hx
  obtain ⟨j, hj, rfl⟩ := List.getElem_of_mem hy
  rcases Nat.lt_trichotomy i j with h1 | rfl | h1
  · have := hs.get hi hj h1
    rw [h, sless_irrefl] at this; cases this
  · rfl
  · have := hs.get hj hi h1
    rw [h, sless_irrefl] at this; cases this

theorem Busy_cl {M G S : Nat → Prop} {H : Hp} {p : Nat} {L : List Hd} {v vk : Value} {key : ByteArray} (n : Nm) (hT : Tab M G H p L v) (hs : Sorted L) (hm : Sm L) (hk : StrSl S H vk [key]) :
    Cl Tryz.prog 15 [.pointer (some ⟨p, 0, none⟩), .agg #[.int .i64 n.client, .int .i64 n.num], vk] H fun r H' => Ext H H' ∧ ∃ (a : Nm) (b : Bool), r = .tuple #[.agg #[.int .i64 a.client, .int .i64 a.num], .bool b] ∧
      ((b = true ∧ ∃ x ∈ L, x.key = key ∧ x.name ≠ n ∧ a = x.name) ∨ (b = false ∧ a = ⟨0, 0⟩ ∧ ∀ x ∈ L, x.key = key → x.name = n)) := by
  refine cl_of mixed c_holds_Holds_Busy (Nat.le_of_ble_eq_true rfl) ?_
  simp only [fwp, ir_holds_Holds_Busy, argF, Nat.reduceAdd]
  obtain ⟨ka, kc, rfl, hkc, -, hkel⟩ := SlP.open hk
  obtain ⟨kb, ko, rfl, hkS, kcs, hkr, rfl, hsz⟩ := hkel 0 (by simp)
  have hkx := rdn1 hkr
  simp only [Nat.zero_mul, Nat.add_zero, List.getElem_cons_zero] at hkx hsz
  simp only [List.length_cons, List.length_nil, Nat.zero_add] at hkc ⊢
  have hkb := cell_lt hkx
  refine w_reg fun K hK => ?_
  simp (disch := omega) only [↓wD, wU, Nat.reduceBEq, reduceCtorEq, Int.reduceEq, Int.reduceLT, Int.reduceLE, Int.reduceNeg, Value.cells, Value.oneCell', Nat.reduceAdd, Nat.reduceEqDiff, fillL, setL, Nat.reduceLeDiff, ]
  refine hK _ _ ?_
  clear hK K
  generalize hH0 : (H.push (.cells #[.int .i64 n.client, .int .i64 n.num] 24)).push (.cells #[.int .i64 0, .int .i64 0] 24) = H0
  have hE0 : Ext H H0 := by subst hH0; exact ((Ext.refl _).push _).push _
  have hcn : rdn H0 H.size 0 2 = some [.int .i64 n.client, .int .i64 n.num] := by
    subst hH0; exact rdn_ext ((Ext.refl _).push _) (rdn_new H [_, _] 24 0 2 (Nat.le_refl _))
  have hc6 : ∀ j, j < 2 → cell H0 (H.size + 1) j = some (.int .i64 0) := by
    subst hH0
    intro j hj
    have := cell_new (H.push (.cells #[.int .i64 n.client, .int .i64 n.num] 24)) [.int .i64 0, .int .i64 0] 24 j
    simp only [Array.size_push] at this
    rw [this]
    match j, hj with
    | 0, _ => rfl
    | 1, _ => rfl
  have hf6 : ∀ j, frz H0 (H.size + 1) j = false := by
    subst hH0
    intro j
    have := frz_new (H.push (.cells #[.int .i64 n.client, .int .i64 n.num] 24)) [.int .i64 0, .int .i64 0] 24 j
    simpa only [Array.size_push] using this
  have hz0 : H0.size = H.size + 2 := by subst hH0; simp
  clear hH0
  obtain ⟨cn0, cn1⟩ := rdn2 hcn
  refine w_seq (w_seq ?_)
  refine w_reg fun K hK => ?_
  simp (disch := omega) only [↓wD, wU, Nat.reduceBEq, reduceCtorEq, Int.reduceEq, Int.reduceLT, Int.reduceLE, Int.reduceNeg, Value.cells, Value.oneCell', Nat.reduceAdd, Nat.reduceEqDiff, fillL, setL, Nat.reduceLeDiff, ]
  refine w_call (Values_cl) ?_
  rintro _ H1 ⟨rfl, rfl⟩
  simp (disch := omega) only [↓wD, wU, Nat.reduceBEq, reduceCtorEq, Int.reduceEq, Int.reduceLT, Int.reduceLE, Int.reduceNeg, Value.cells, Value.oneCell', Nat.reduceAdd, Nat.reduceEqDiff, fillL, setL, Nat.reduceLeDiff, ]
  have hE1 : Ext H0 (H0.push (.cells [Value.slice (some ⟨kb, ko, none⟩) 1 kc].toArray 74)) := (Ext.refl _).push _
  have hB1 : cell (H0.push (.cells [Value.slice (some ⟨kb, ko, none⟩) 1 kc].toArray 74)) H0.size 0 = some (.slice (some ⟨kb, ko, none⟩) 1 kc) := cell_new _ _ _ 0
  generalize H0.push (.cells [Value.slice (some ⟨kb, ko, none⟩) 1 kc].toArray 74) = H1 at hE1 hB1 ⊢
  have hE01 := hE0.trans hE1
  refine w_call (sorted1_cl hB1 ((hE01.cell kb ko hkb).trans hkx) hsz) ?_
  rintro _ H2 ⟨hss, hE2⟩
  obtain ⟨sa, sc, rfl, hsc, -, hsel⟩ := SlP.open hss
  obtain ⟨sb, so, rfl, -, scs, hsr, rfl, -⟩ := hsel 0 (by simp)
  have hsx := rdn1 hsr
  simp only [Nat.zero_mul, Nat.add_zero, List.getElem_cons_zero] at hsx
  simp only [List.length_cons, List.length_nil, Nat.zero_add] at hsc ⊢
  simp (disch := omega) only [↓wD, wU, Nat.reduceBEq, reduceCtorEq, Int.reduceEq, Int.reduceLT, Int.reduceLE, Int.reduceNeg, Value.cells, Value.oneCell', Nat.reduceAdd, Nat.reduceEqDiff, fillL, setL, Nat.reduceLeDiff, cast1]
  refine hK _ _ ?_
  clear hK K
  have hE02 := hE01.trans hE2
  have hE12 : Ext H0 H2 := hE1.trans hE2
  have two : ∀ {HX : Hp}, Ext H0 HX → Own HX (H.size + 1) 0 2 := fun {HX} hX j hj => by
    rw [Nat.zero_add, hX.cell (H.size + 1) j (by omega), hc6 j hj, frz_block (hX.2 (H.size + 1) (by omega)), hf6]
    exact ⟨rfl, rfl⟩
  refine w_blk (w_loop (fun n' f H' => Ext H2 H' ∧ f 0 = .pointer (some ⟨p, 0, none⟩) ∧ f 4 = .pointer (some ⟨H.size, 0, none⟩) ∧ f 6 = .pointer (some ⟨H.size + 1, 0, none⟩) ∧ f 14 = .slice (some ⟨sb, so, none⟩) 1 sc ∧ f 15 = .int .i64 1 ∧ ((f 16 = .int .i64 0 ∧ n' = 1) ∨ (f 16 = .int .i64 1 ∧ n' = 0 ∧ ∀ x ∈ L, x.key = key → x.name = n))) 1 ⟨Ext.refl _, (by simp only [ev_tmp, ev_const, upd_apply, Nat.reduceBEq, cond_true, cond_false, ]), (by simp only [ev_tmp, ev_const, upd_apply, Nat.reduceBEq, cond_true, cond_false, ]), (by simp only [ev_tmp, ev_const, upd_apply, Nat.reduceBEq, cond_true, cond_false, ]), (by simp only [ev_tmp, ev_const, upd_apply, Nat.reduceBEq, cond_true, cond_false, ]), (by simp only [ev_tmp, ev_const, upd_apply, Nat.reduceBEq, cond_true, cond_false, ]), .inl ⟨rfl, rfl⟩⟩ ?_)
  rintro n' f H' ⟨hE, f0, f4, f6, f14, f15, ⟨f16, rfl⟩ | ⟨f16, rfl, hno⟩⟩
  · have h01 : ((0 : Int) < 1) = True := by simp
    have h01n : ((0 : Int) < ((1 : Nat) : Int)) = True := by simp
    have t0 : (0 : Int).toNat = 0 := rfl
    have hsx' := (hE.cell sb so (cell_lt hsx)).trans hsx
    refine w_reg fun K hK => ?_
    simp (disch := omega) only [↓wD, wU, Nat.reduceBEq, reduceCtorEq, Int.reduceEq, Int.reduceLT, Int.reduceLE, Int.reduceNeg, Value.cells, Value.oneCell', Nat.reduceAdd, Nat.reduceEqDiff, fillL, setL, Nat.reduceLeDiff, f15, f16, h01]
    refine hK _ _ ?_
    clear hK K
    refine w_seq ?_
    refine w_true (by simp only [ev_tmp, ev_const, upd_apply, Nat.reduceBEq, cond_true, cond_false, Bool.not_true, Bool.not_false, ]) ?_
    refine w_skip ?_
    repeat (first | with_reducible refine q_n ?_ | with_reducible refine q_e ?_ | with_reducible refine q_r ?_ | with_reducible refine bq_n ?_ | with_reducible refine bq_e ?_ | with_reducible refine bq_r ?_ | with_reducible refine bq_o rfl ?_)
    refine w_seq (w_blk ?_)
    refine w_reg fun K hK => ?_
    simp (disch := omega) only [↓wD, wU, Nat.reduceBEq, reduceCtorEq, Int.reduceEq, Int.reduceLT, Int.reduceLE, Int.reduceNeg, Value.cells, Value.oneCell', Nat.reduceAdd, Nat.reduceEqDiff, fillL, setL, Nat.reduceLeDiff, f14, f16, h01, h01n, hsx', t0, Nat.zero_lt_one]
    refine hK _ _ ?_
    clear hK K
    refine w_reg fun K hK => ?_
    simp (disch := omega) only [↓wD, wU, Nat.reduceBEq, reduceCtorEq, Int.reduceEq, Int.reduceLT, Int.reduceLE, Int.reduceNeg, Value.cells, Value.oneCell', Nat.reduceAdd, Nat.reduceEqDiff, fillL, setL, Nat.reduceLeDiff, f0]
    have hEA := hE02.trans hE
    refine w_call (Of_cl key (hT.ext hEA) hs hm) ?_
    rintro _ H3 ⟨hE3, x, cs, G2, rfl, he, -, hx⟩
    have he' := he
    obtain ⟨va, vr, ecs, ha, hr, hnm, hsk, hsv⟩ := he'
    obtain ⟨xa, ca, rfl, hca, -⟩ := ha.form
    obtain ⟨xr, cr, rfl, hcr, -⟩ := hr.form
    rw [ecs]
    simp (disch := omega) only [↓wD, wU, Nat.reduceBEq, reduceCtorEq, Int.reduceEq, Int.reduceLT, Int.reduceLE, Int.reduceNeg, Value.cells, Value.oneCell', Nat.reduceAdd, Nat.reduceEqDiff, fillL, setL, Nat.reduceLeDiff, ]
    refine hK _ _ ?_
    clear hK K
    have hEB : Ext H3 (H3.push (.cells cs.toArray 35)) := (Ext.refl _).push _
    have hr0 : rdn (H3.push (.cells cs.toArray 35)) H3.size 0 7 = some cs := by
      rw [rdn_new H3 cs 35 0 7 (by rw [he.len]; omega), List.drop_zero, List.take_of_length_le (by rw [he.len]; omega)]
    rw [← ecs]
    generalize H3.push (.cells cs.toArray 35) = H4 at hEB hr0 ⊢
    rw [ecs] at hr0
    obtain ⟨d0, d1, d2, d3, d4, d5, d6⟩ := rdn7 hr0
    have hEC : Ext H0 H4 := ((hE12.trans hE).trans hE3).trans hEB
    have cn0' := (hEC.cell H.size 0 (by omega)).trans cn0
    have cn1' := (hEC.cell H.size (0 + 1) (by omega)).trans cn1
    have hE2C : Ext H2 H4 := (hE.trans hE3).trans hEB
    have hEH : Ext H H4 := hE0.trans hEC
    have next : ∀ (g : Fr), g 0 = .pointer (some ⟨p, 0, none⟩) → g 4 = .pointer (some ⟨H.size, 0, none⟩) → g 6 = .pointer (some ⟨H.size + 1, 0, none⟩) → g 14 = .slice (some ⟨sb, so, none⟩) 1 sc → g 15 = .int .i64 1 → g 16 = .int .i64 0 → (∀ x ∈ L, x.key = key → x.name = n) → cwp Tryz.prog (.reg [O.s 35 (I.bin .add (.tmp 16) (.const (.int .i64 1))), O.s 16 (I.mv (.tmp 35))]) g H4 (fun e f' H' => e = .normal ∧ ∃ m, m < 1 ∧ Ext H2 H' ∧ f' 0 = .pointer (some ⟨p, 0, none⟩) ∧ f' 4 = .pointer (some ⟨H.size, 0, none⟩) ∧ f' 6 = .pointer (some ⟨H.size + 1, 0, none⟩) ∧ f' 14 = .slice (some ⟨sb, so, none⟩) 1 sc ∧ f' 15 = .int .i64 1 ∧ ((f' 16 = .int .i64 0 ∧ m = 1) ∨ (f' 16 = .int .i64 1 ∧ m = 0 ∧ ∀ x ∈ L, x.key = key → x.name = n))) := by
      intro g g0 g4 g6 g14 g15 g16 hn
      have hw1 : IntKind.i64.wrap (0 + 1) = 1 := by rw [wr64 (by omega) (by omega)]; rfl
      refine w_reg1 fun K hK => ?_
      simp (disch := omega) only [↓wD, wU, Nat.reduceBEq, reduceCtorEq, Int.reduceEq, Int.reduceLT, Int.reduceLE, Int.reduceNeg, Value.cells, Value.oneCell', Nat.reduceAdd, Nat.reduceEqDiff, fillL, setL, Nat.reduceLeDiff, g16, hw1]
      refine hK _ _ ?_
      clear hK K
      exact ⟨rfl, 0, by decide, hE2C, (by simp only [ev_tmp, ev_const, upd_apply, Nat.reduceBEq, cond_true, cond_false, g0]), (by simp only [ev_tmp, ev_const, upd_apply, Nat.reduceBEq, cond_true, cond_false, g4]), (by simp only [ev_tmp, ev_const, upd_apply, Nat.reduceBEq, cond_true, cond_false, g6]), (by simp only [ev_tmp, ev_const, upd_apply, Nat.reduceBEq, cond_true, cond_false, g14]), (by simp only [ev_tmp, ev_const, upd_apply, Nat.reduceBEq, cond_true, cond_false, g15]), .inr ⟨(by simp only [ev_tmp, ev_const, upd_apply, Nat.reduceBEq, cond_true, cond_false, ]), rfl, hn⟩⟩
    have go : ∀ {c : C} {f : Fr} {H : Hp} {R : Ex → Fr → Hp → Prop} {N : Fr → Hp → Prop}, cwp Tryz.prog c f H (fun e f H => e = .normal ∧ N f H) → (∀ f H, N f H → R .normal f H) → cwp Tryz.prog c f H R := by
      intro c f H R N h hn
      refine w_mono ?_ h
      rintro e f H ⟨rfl, h⟩
      exact hn f H h
    cases hh : hasK L key with
    | false =>
      refine w_reg fun K hK => ?_
      simp (disch := omega) only [↓wD, wU, Nat.reduceBEq, reduceCtorEq, Int.reduceEq, Int.reduceLT, Int.reduceLE, Int.reduceNeg, Value.cells, Value.oneCell', Nat.reduceAdd, Nat.reduceEqDiff, fillL, setL, Nat.reduceLeDiff, ]
      refine hK _ _ ?_
      clear hK K
      refine w_false (by simp only [ev_tmp, ev_const, upd_apply, Nat.reduceBEq, cond_true, cond_false, Bool.not_true, Bool.not_false, ]) ?_
      refine w_skip ?_
      repeat (first | with_reducible refine q_n ?_ | with_reducible refine q_e ?_ | with_reducible refine q_r ?_ | with_reducible refine bq_n ?_ | with_reducible refine bq_e ?_ | with_reducible refine bq_r ?_ | with_reducible refine bq_o rfl ?_)
      refine go (next _ (by simp only [ev_tmp, ev_const, upd_apply, Nat.reduceBEq, cond_true, cond_false, f0]) (by simp only [ev_tmp, ev_const, upd_apply, Nat.reduceBEq, cond_true, cond_false, f4]) (by simp only [ev_tmp, ev_const, upd_apply, Nat.reduceBEq, cond_true, cond_false, f6]) (by simp only [ev_tmp, ev_const, upd_apply, Nat.reduceBEq, cond_true, cond_false, f14]) (by simp only [ev_tmp, ev_const, upd_apply, Nat.reduceBEq, cond_true, cond_false, f15]) (by simp only [ev_tmp, ev_const, upd_apply, Nat.reduceBEq, cond_true, cond_false, f16]) fun y hy hyk => ?_) ?_
      · have := hasK_iff.2 ⟨y, hy, hyk⟩
        rw [hh] at this; cases this
      · intro f H h
        exact h
    | true =>
      rw [hh] at hx
      simp only [if_true] at hx
      by_cases hnm' : x.name = n
      · have hq : (decide (x.name.client = n.client) && (decide (x.name.num = n.num) && true)) = true := by rw [hnm']; simp
        have hq' : (decide (x.name.client = n.client) && decide (x.name.num = n.num)) = true := by rw [hnm']; simp
        refine w_reg fun K hK => ?_
        simp (disch := omega) only [↓wD, wU, Nat.reduceBEq, reduceCtorEq, Int.reduceEq, Int.reduceLT, Int.reduceLE, Int.reduceNeg, Value.cells, Value.oneCell', Nat.reduceAdd, Nat.reduceEqDiff, fillL, setL, Nat.reduceLeDiff, f4, d1, d2, cn0', cn1', leavesEq, leafEq, hq, hq']
        refine hK _ _ ?_
        clear hK K
        refine w_false (by simp only [ev_tmp, ev_const, upd_apply, Nat.reduceBEq, cond_true, cond_false, Bool.not_true, Bool.not_false, ]) ?_
        refine w_skip ?_
        repeat (first | with_reducible refine q_n ?_ | with_reducible refine q_e ?_ | with_reducible refine q_r ?_ | with_reducible refine bq_n ?_ | with_reducible refine bq_e ?_ | with_reducible refine bq_r ?_ | with_reducible refine bq_o rfl ?_)
        refine go (next _ (by simp only [ev_tmp, ev_const, upd_apply, Nat.reduceBEq, cond_true, cond_false, f0]) (by simp only [ev_tmp, ev_const, upd_apply, Nat.reduceBEq, cond_true, cond_false, f4]) (by simp only [ev_tmp, ev_const, upd_apply, Nat.reduceBEq, cond_true, cond_false, f6]) (by simp only [ev_tmp, ev_const, upd_apply, Nat.reduceBEq, cond_true, cond_false, f14]) (by simp only [ev_tmp, ev_const, upd_apply, Nat.reduceBEq, cond_true, cond_false, f15]) (by simp only [ev_tmp, ev_const, upd_apply, Nat.reduceBEq, cond_true, cond_false, f16]) fun y hy hyk => ?_) ?_
        · rw [sorted_unique hs hy hx.1 (hyk.trans hx.2.symm)]; exact hnm'
        · intro f H h
          exact h
      · have hq' : (decide (x.name.client = n.client) && decide (x.name.num = n.num)) = false := by
          cases h : (decide (x.name.client = n.client) && decide (x.name.num = n.num)) with
          | false => rfl
          | true =>
            simp only [Bool.and_eq_true, decide_eq_true_eq] at h
            exact absurd (by cases hx1 : x.name; cases n; simp_all) hnm'
        have hq : (decide (x.name.client = n.client) && (decide (x.name.num = n.num) && true)) = false := by rw [Bool.and_true]; exact hq'
        refine w_reg fun K hK => ?_
        simp (disch := omega) only [↓wD, wU, Nat.reduceBEq, reduceCtorEq, Int.reduceEq, Int.reduceLT, Int.reduceLE, Int.reduceNeg, Value.cells, Value.oneCell', Nat.reduceAdd, Nat.reduceEqDiff, fillL, setL, Nat.reduceLeDiff, f4, d1, d2, cn0', cn1', leavesEq, leafEq, hq, hq']
        refine hK _ _ ?_
        clear hK K
        refine w_true (by simp only [ev_tmp, ev_const, upd_apply, Nat.reduceBEq, cond_true, cond_false, Bool.not_true, Bool.not_false, ]) ?_
        obtain ⟨H5, hw, hW⟩ := wrn_ok (H := H4) (b := H.size + 1) (o := 0) (l := [.int .i64 x.name.client, .int .i64 x.name.num]) (two hEC) (by intro v hv; simp at hv; rcases hv with rfl | rfl <;> rfl)
        have hr5 := hW.rdn_at
        have hr5' : rdn H5 (H.size + 1) 0 2 = some [.int .i64 x.name.client, .int .i64 x.name.num] := hr5
        obtain ⟨q0, q1⟩ := rdn2 hr5'
        refine w_reg fun K hK => ?_
        simp (disch := omega) only [↓wD, wU, Nat.reduceBEq, reduceCtorEq, Int.reduceEq, Int.reduceLT, Int.reduceLE, Int.reduceNeg, Value.cells, Value.oneCell', Nat.reduceAdd, Nat.reduceEqDiff, fillL, setL, Nat.reduceLeDiff, f6, d1, d2, hw]
        refine hK _ _ ?_
        clear hK K
        refine w_ret ?_
        repeat (first | with_reducible refine q_n ?_ | with_reducible refine q_e ?_ | with_reducible refine q_r ?_ | with_reducible refine bq_n ?_ | with_reducible refine bq_e ?_ | with_reducible refine bq_r ?_ | with_reducible refine bq_o rfl ?_)
        refine retG (v := .tuple #[.agg #[.int .i64 x.name.client, .int .i64 x.name.num], .bool true]) (by simp (disch := omega) only [resV, rvsV, rvV, oneOr, ↓wD, wU, Nat.reduceBEq, reduceCtorEq, Int.reduceEq, Int.reduceLT, Int.reduceLE, Int.reduceNeg, Value.cells, Value.oneCell', Nat.reduceAdd, Nat.reduceEqDiff, fillL, setL, Nat.reduceLeDiff, f6, rd2, q0, q1]) ?_
        refine ⟨hW.ext hEH (by omega), x.name, true, rfl, .inl ⟨rfl, x, hx.1, hx.2, hnm', rfl⟩⟩
  · have h11 : ((1 : Int) < 1) = False := by simp
    refine w_reg fun K hK => ?_
    simp (disch := omega) only [↓wD, wU, Nat.reduceBEq, reduceCtorEq, Int.reduceEq, Int.reduceLT, Int.reduceLE, Int.reduceNeg, Value.cells, Value.oneCell', Nat.reduceAdd, Nat.reduceEqDiff, fillL, setL, Nat.reduceLeDiff, f15, f16, h11]
    refine hK _ _ ?_
    clear hK K
    refine w_seq ?_
    refine w_false (by simp only [ev_tmp, ev_const, upd_apply, Nat.reduceBEq, cond_true, cond_false, Bool.not_true, Bool.not_false, ]) ?_
    refine w_exit ?_
    repeat (first | with_reducible refine q_n ?_ | with_reducible refine q_e ?_ | with_reducible refine q_r ?_ | with_reducible refine bq_n ?_ | with_reducible refine bq_e ?_ | with_reducible refine bq_r ?_ | with_reducible refine bq_o rfl ?_)
    obtain ⟨H5, hw, hW⟩ := wrn_ok (H := H') (b := H.size + 1) (o := 0) (l := [.int .i64 0, .int .i64 0]) (two (hE12.trans hE)) (by intro v hv; simp at hv; subst hv; rfl)
    have hr5 := hW.rdn_at
    have hr5' : rdn H5 (H.size + 1) 0 2 = some [.int .i64 0, .int .i64 0] := hr5
    obtain ⟨q0, q1⟩ := rdn2 hr5'
    refine w_reg fun K hK => ?_
    simp (disch := omega) only [↓wD, wU, Nat.reduceBEq, reduceCtorEq, Int.reduceEq, Int.reduceLT, Int.reduceLE, Int.reduceNeg, Value.cells, Value.oneCell', Nat.reduceAdd, Nat.reduceEqDiff, fillL, setL, Nat.reduceLeDiff, f6, hw]
    refine hK _ _ ?_
    clear hK K
    refine w_ret ?_
    repeat (first | with_reducible refine q_n ?_ | with_reducible refine q_e ?_ | with_reducible refine q_r ?_ | with_reducible refine bq_n ?_ | with_reducible refine bq_e ?_ | with_reducible refine bq_r ?_ | with_reducible refine bq_o rfl ?_)
    refine retG (v := .tuple #[.agg #[.int .i64 0, .int .i64 0], .bool false]) (by simp (disch := omega) only [resV, rvsV, rvV, oneOr, ↓wD, wU, Nat.reduceBEq, reduceCtorEq, Int.reduceEq, Int.reduceLT, Int.reduceLE, Int.reduceNeg, Value.cells, Value.oneCell', Nat.reduceAdd, Nat.reduceEqDiff, fillL, setL, Nat.reduceLeDiff, f6, rd2, q0, q1]) ?_
    exact ⟨hW.ext (hE02.trans hE) (by omega), ⟨0, 0⟩, false, rfl, .inr ⟨rfl, rfl, hno⟩⟩
end Go.WK
/-
  Tables that are made.
-/
namespace Go.WK
open Go Go.Proofs

theorem ElHd.lt {S : Nat → Prop} {H : Hp} {cs : List Value} {h : Hd} (e : ElHd S H cs h) : ElHd (fun x => S x ∧ x < H.size) H cs h := by
  obtain ⟨va, vr, e, h1, h2, h3⟩ := e
  exact ⟨va, vr, e, h1.lt (by decide), h2.lt (by decide), h3⟩
theorem HdSl.lt {S : Nat → Prop} {H : Hp} {v : Value} {l : List Hd} (h : HdSl S H v l) : HdSl (fun x => S x ∧ x < H.size) H v l := by
  refine SlP.mono (H' := H) (SlP.lt (by decide) h) (fun _ h => h) (fun _ _ _ => rfl) fun cs a _ he => he.lt

theorem made_cl {S : Nat → Prop} {H : Hp} {v : Value} {l : List Hd} (hv : HdSl S H v l) : Cl Tryz.prog 11 [v] H fun r H' => r = .pointer (some ⟨H.size, 0, none⟩) ∧ Ext H H' ∧ ∃ L M G v', Tab M G H' H.size L v' ∧ WF L ∧ ∀ x, M x ∨ G x → H.size ≤ x := by
  refine cl_of mixed c_watershedlaw16_made (Nat.le_of_ble_eq_true rfl) ?_
  simp only [fwp, ir_watershedlaw16_made, argF, Nat.reduceAdd]
  obtain ⟨a, c, rfl, hc, hl, hel⟩ := SlP.open hv.lt
  refine w_reg fun K hK => ?_
  simp (disch := omega) only [↓wD, wU, Nat.reduceBEq, reduceCtorEq, Int.reduceEq, Int.reduceLT, Int.reduceLE, Int.reduceNeg, Value.cells, Value.oneCell', Nat.reduceAdd, Nat.reduceEqDiff, fillL, setL, Nat.reduceLeDiff, ]
  refine hK _ _ ?_
  clear hK K
  refine w_reg fun K hK => ?_
  simp (disch := omega) only [↓wD, wU, Nat.reduceBEq, reduceCtorEq, Int.reduceEq, Int.reduceLT, Int.reduceLE, Int.reduceNeg, Value.cells, Value.oneCell', Nat.reduceAdd, Nat.reduceEqDiff, fillL, setL, Nat.reduceLeDiff, ]
  refine w_call (New_cl) ?_
  rintro _ H1 ⟨rfl, hE1, hT1⟩
  simp (disch := omega) only [↓wD, wU, Nat.reduceBEq, reduceCtorEq, Int.reduceEq, Int.reduceLT, Int.reduceLE, Int.reduceNeg, Value.cells, Value.oneCell', Nat.reduceAdd, Nat.reduceEqDiff, fillL, setL, Nat.reduceLeDiff, ]
  refine hK _ _ ?_
  clear hK K
  refine w_seq (w_seq ?_)
  refine w_reg fun K hK => ?_
  simp (disch := omega) only [↓wD, wU, Nat.reduceBEq, reduceCtorEq, Int.reduceEq, Int.reduceLT, Int.reduceLE, Int.reduceNeg, Value.cells, Value.oneCell', Nat.reduceAdd, Nat.reduceEqDiff, fillL, setL, Nat.reduceLeDiff, ]
  refine hK _ _ ?_
  clear hK K
  refine w_blk (w_loop (fun n f H' => Ext H H' ∧ f 0 = .slice a l.length c ∧ f 3 = .pointer (some ⟨H.size, 0, none⟩) ∧ ∃ (i : Nat), f 4 = .int .i64 i ∧ i ≤ l.length ∧ (∃ L M G v', Tab M G H' H.size L v' ∧ WF L ∧ ∀ x, M x ∨ G x → H.size ≤ x) ∧ n = l.length - i) _ ⟨hE1, (by simp only [ev_tmp, ev_const, upd_apply, Nat.reduceBEq, cond_true, cond_false, ]), (by simp only [ev_tmp, ev_const, upd_apply, Nat.reduceBEq, cond_true, cond_false, ]), 0, rfl, Nat.zero_le _, ⟨[], _, _, _, hT1, WF.nil, by simp⟩, rfl⟩ ?_)
  rintro n f H' ⟨hE, f0, f3, i, f4, hi, ⟨L, M, G, v', hT, hW, hlo⟩, rfl⟩
  refine w_seq (w_seq ?_)
  by_cases hil : i < l.length
  · obtain ⟨b, o, rfl, hSb, cs, hcs, he⟩ := hel i hil
    have he1 := he.ext hE
    have hcs' := rdn_ext hE hcs
    have he' := he
    obtain ⟨va, vr, ecs, ha, hr, hnm, hsk, hsv⟩ := he'
    rw [ecs] at hcs'
    refine w_reg fun K hK => ?_
    simp (disch := omega) only [↓wD, wU, Nat.reduceBEq, reduceCtorEq, Int.reduceEq, Int.reduceLT, Int.reduceLE, Int.reduceNeg, Value.cells, Value.oneCell', Nat.reduceAdd, Nat.reduceEqDiff, fillL, setL, Nat.reduceLeDiff, f0, f4, hil]
    refine hK _ _ ?_
    clear hK K
    refine w_true (by simp only [ev_tmp, ev_const, upd_apply, Nat.reduceBEq, cond_true, cond_false, Bool.not_true, Bool.not_false, ]) ?_
    refine w_skip ?_
    repeat (first | with_reducible refine q_n ?_ | with_reducible refine q_e ?_ | with_reducible refine q_r ?_ | with_reducible refine bq_n ?_ | with_reducible refine bq_e ?_ | with_reducible refine bq_r ?_ | with_reducible refine bq_o rfl ?_)
    refine w_seq (w_blk ?_)
    refine w_reg1 fun K hK => ?_
    simp (disch := omega) only [↓wD, wU, Nat.reduceBEq, reduceCtorEq, Int.reduceEq, Int.reduceLT, Int.reduceLE, Int.reduceNeg, Value.cells, Value.oneCell', Nat.reduceAdd, Nat.reduceEqDiff, fillL, setL, Nat.reduceLeDiff, f0, f3, f4, hil, hcs']
    rw [← ecs]
    have hp := cell_lt hT.c0
    have hE2 : Ext H' (H'.push (.cells cs.toArray 35)) := (Ext.refl _).push _
    refine w_call (Put_cl (hT.ext hE2) hW (he1.sl1 35) (fun x hx => by
          have hs := hE.size
          rcases hx with ⟨_, hx⟩ | hx
          · exact ⟨fun hm => by have := hlo x (.inl hm); omega, by omega⟩
          · exact ⟨fun hm => by have := hT.lt x (.inl hm); omega, by omega⟩)) ?_
    rintro _ H2 ⟨rfl, hk2, L2, M2, G2, v2, hW2, hT2, hGr, -⟩
    simp (disch := omega) only [↓wD, wU, Nat.reduceBEq, reduceCtorEq, Int.reduceEq, Int.reduceLT, Int.reduceLE, Int.reduceNeg, Value.cells, Value.oneCell', Nat.reduceAdd, Nat.reduceEqDiff, fillL, setL, Nat.reduceLeDiff, ]
    refine hK _ _ ?_
    clear hK K
    repeat (first | with_reducible refine q_n ?_ | with_reducible refine q_e ?_ | with_reducible refine q_r ?_ | with_reducible refine bq_n ?_ | with_reducible refine bq_e ?_ | with_reducible refine bq_r ?_ | with_reducible refine bq_o rfl ?_)
    refine w_reg1 fun K hK => ?_
    simp (disch := omega) only [↓wD, wU, Nat.reduceBEq, reduceCtorEq, Int.reduceEq, Int.reduceLT, Int.reduceLE, Int.reduceNeg, Value.cells, Value.oneCell', Nat.reduceAdd, Nat.reduceEqDiff, fillL, setL, Nat.reduceLeDiff, f4]
    refine hK _ _ ?_
    clear hK K
    repeat (first | with_reducible refine q_n ?_ | with_reducible refine q_e ?_ | with_reducible refine q_r ?_ | with_reducible refine bq_n ?_ | with_reducible refine bq_e ?_ | with_reducible refine bq_r ?_ | with_reducible refine bq_o rfl ?_)
    have hs := hE.size
    have hsp : (H'.push (.cells cs.toArray 35)).size = H'.size + 1 := by simp
    rw [hsp] at hGr
    refine ⟨l.length - (i + 1), by omega, ⟨Nat.le_trans (hE.trans hE2).size hk2.1, fun x hx => ?_⟩, (by simp only [ev_tmp, ev_const, upd_apply, Nat.reduceBEq, cond_true, cond_false, f0]), (by simp only [ev_tmp, ev_const, upd_apply, Nat.reduceBEq, cond_true, cond_false, f3]), i + 1, (by simp only [ev_tmp, ev_const, upd_apply, Nat.reduceBEq, cond_true, cond_false, ]), by omega, ⟨L2, M2, G2, v2, hT2, hW2, fun x hx => ?_⟩, rfl⟩
    · rw [hk2.2 x (by omega) ⟨fun hm => by have := hlo x (.inl hm); omega, by omega⟩, (hE.trans hE2).2 x hx]
    · rcases hx with hx | hx
      · rcases hGr.1 x hx with h | h
        · exact hlo x (.inl h)
        · omega
      · rcases hGr.2 x hx with h | h
        · exact hlo x (.inr h)
        · omega
  · refine w_reg fun K hK => ?_
    simp (disch := omega) only [↓wD, wU, Nat.reduceBEq, reduceCtorEq, Int.reduceEq, Int.reduceLT, Int.reduceLE, Int.reduceNeg, Value.cells, Value.oneCell', Nat.reduceAdd, Nat.reduceEqDiff, fillL, setL, Nat.reduceLeDiff, f0, f4, hil]
    refine hK _ _ ?_
    clear hK K
    refine w_false (by simp only [ev_tmp, ev_const, upd_apply, Nat.reduceBEq, cond_true, cond_false, Bool.not_true, Bool.not_false, ]) ?_
    refine w_exit ?_
    repeat (first | with_reducible refine q_n ?_ | with_reducible refine q_e ?_ | with_reducible refine q_r ?_ | with_reducible refine bq_n ?_ | with_reducible refine bq_e ?_ | with_reducible refine bq_r ?_ | with_reducible refine bq_o rfl ?_)
    refine w_reg fun K hK => ?_
    simp (disch := omega) only [↓wD, wU, Nat.reduceBEq, reduceCtorEq, Int.reduceEq, Int.reduceLT, Int.reduceLE, Int.reduceNeg, Value.cells, Value.oneCell', Nat.reduceAdd, Nat.reduceEqDiff, fillL, setL, Nat.reduceLeDiff, f3]
    refine hK _ _ ?_
    clear hK K
    refine w_ret ?_
    repeat (first | with_reducible refine q_n ?_ | with_reducible refine q_e ?_ | with_reducible refine q_r ?_ | with_reducible refine bq_n ?_ | with_reducible refine bq_e ?_ | with_reducible refine bq_r ?_ | with_reducible refine bq_o rfl ?_)
    refine ret1 (by (try simp only [ev_tmp, ev_const, upd_apply, Nat.reduceBEq, cond_true, cond_false, ]); rfl) ?_
    exact ⟨rfl, hE, L, M, G, v', hT, hW, hlo⟩

theorem i64_0 : I64 0 := ⟨by decide, by decide⟩
theorem i64_1 : I64 1 := ⟨by decide, by decide⟩
def plainH (key : ByteArray) (c : Int) : Hd := ⟨key, ⟨c, 1⟩, [⟨1, key, .empty, 0⟩], [⟨key, false, .empty⟩], false, .empty⟩
theorem plain_cl {H : Hp} (key : ByteArray) (c : Int) (hk : Sz key) (hc : I64 c) : Cl Tryz.prog 46 [.string key, .int .i64 c] H fun r H' => ∃ cs G, r = .agg cs.toArray ∧ ElHd G H' cs (plainH key c) ∧ (∀ x, G x → H.size ≤ x ∧ x < H'.size) ∧ Ext H H' := by
  refine cl_of mixed c_watershedlaw16_plain (Nat.le_of_ble_eq_true rfl) ?_
  simp only [fwp, ir_watershedlaw16_plain, argF, Nat.reduceAdd]
  refine w_reg fun K hK => ?_
  simp (disch := omega) only [↓wD, wU, Nat.reduceBEq, reduceCtorEq, Int.reduceEq, Int.reduceLT, Int.reduceLE, Int.reduceNeg, Value.cells, Value.oneCell', Nat.reduceAdd, Nat.reduceEqDiff, fillL, setL, Nat.reduceLeDiff, ]
  refine hK _ _ ?_
  clear hK K
  refine w_reg fun K hK => ?_
  simp (disch := omega) only [↓wD, wU, Nat.reduceBEq, reduceCtorEq, Int.reduceEq, Int.reduceLT, Int.reduceLE, Int.reduceNeg, Value.cells, Value.oneCell', Nat.reduceAdd, Nat.reduceEqDiff, fillL, setL, Nat.reduceLeDiff, ]
  refine hK _ _ ?_
  clear hK K
  refine w_ret ?_
  repeat (first | with_reducible refine q_n ?_ | with_reducible refine q_e ?_ | with_reducible refine q_r ?_ | with_reducible refine bq_n ?_ | with_reducible refine bq_e ?_ | with_reducible refine bq_r ?_ | with_reducible refine bq_o rfl ?_)
  have r7 : rdn (((H.push (.cells #[.string key, .int .i64 c, .int .i64 1, .slice (some ⟨H.size + 1, 0, none⟩) 1 1, .slice (some ⟨H.size + 1 + 1, 0, none⟩) 1 1, .bool false, .string .empty] 35)).push (.cells #[.int .u8 1, .string key, .string .empty, .int .i64 0] 98)).push (.cells #[.string key, .bool false, .string .empty] 100)) H.size 0 7 = some [.string key, .int .i64 c, .int .i64 1, .slice (some ⟨H.size + 1, 0, none⟩) 1 1, .slice (some ⟨H.size + 1 + 1, 0, none⟩) 1 1, .bool false, .string .empty] :=
    rdn_ext (((Ext.refl _).push _).push _) (rdn_new H [_, _, _, _, _, _, _] 35 0 7 (Nat.le_refl _))
  have r4 : rdn (((H.push (.cells #[.string key, .int .i64 c, .int .i64 1, .slice (some ⟨H.size + 1, 0, none⟩) 1 1, .slice (some ⟨H.size + 1 + 1, 0, none⟩) 1 1, .bool false, .string .empty] 35)).push (.cells #[.int .u8 1, .string key, .string .empty, .int .i64 0] 98)).push (.cells #[.string key, .bool false, .string .empty] 100)) (H.size + 1) 0 4 = some [.int .u8 1, .string key, .string .empty, .int .i64 0] := by
    have := rdn_new (H.push (.cells #[.string key, .int .i64 c, .int .i64 1, .slice (some ⟨H.size + 1, 0, none⟩) 1 1, .slice (some ⟨H.size + 1 + 1, 0, none⟩) 1 1, .bool false, .string .empty] 35)) [.int .u8 1, .string key, .string .empty, .int .i64 0] 98 0 4 (Nat.le_refl _)
    rw [Array.size_push] at this
    exact rdn_ext ((Ext.refl _).push _) this
  have r3 : rdn (((H.push (.cells #[.string key, .int .i64 c, .int .i64 1, .slice (some ⟨H.size + 1, 0, none⟩) 1 1, .slice (some ⟨H.size + 1 + 1, 0, none⟩) 1 1, .bool false, .string .empty] 35)).push (.cells #[.int .u8 1, .string key, .string .empty, .int .i64 0] 98)).push (.cells #[.string key, .bool false, .string .empty] 100)) (H.size + 1 + 1) 0 3 = some [.string key, .bool false, .string .empty] := by
    have := rdn_new ((H.push (.cells #[.string key, .int .i64 c, .int .i64 1, .slice (some ⟨H.size + 1, 0, none⟩) 1 1, .slice (some ⟨H.size + 1 + 1, 0, none⟩) 1 1, .bool false, .string .empty] 35)).push (.cells #[.int .u8 1, .string key, .string .empty, .int .i64 0] 98)) [.string key, .bool false, .string .empty] 100 0 3 (Nat.le_refl _)
    rw [Array.size_push, Array.size_push] at this
    exact this
  have hEx : Ext H (((H.push (.cells #[.string key, .int .i64 c, .int .i64 1, .slice (some ⟨H.size + 1, 0, none⟩) 1 1, .slice (some ⟨H.size + 1 + 1, 0, none⟩) 1 1, .bool false, .string .empty] 35)).push (.cells #[.int .u8 1, .string key, .string .empty, .int .i64 0] 98)).push (.cells #[.string key, .bool false, .string .empty] 100)) := (((Ext.refl _).push _).push _).push _
  have hsz : (((H.push (.cells #[.string key, .int .i64 c, .int .i64 1, .slice (some ⟨H.size + 1, 0, none⟩) 1 1, .slice (some ⟨H.size + 1 + 1, 0, none⟩) 1 1, .bool false, .string .empty] 35)).push (.cells #[.int .u8 1, .string key, .string .empty, .int .i64 0] 98)).push (.cells #[.string key, .bool false, .string .empty] 100)).size = H.size + 3 := by simp
  generalize ((H.push (.cells #[.string key, .int .i64 c, .int .i64 1, .slice (some ⟨H.size + 1, 0, none⟩) 1 1, .slice (some ⟨H.size + 1 + 1, 0, none⟩) 1 1, .bool false, .string .empty] 35)).push (.cells #[.int .u8 1, .string key, .string .empty, .int .i64 0] 98)).push (.cells #[.string key, .bool false, .string .empty] 100) = HC at r7 r4 r3 hEx hsz ⊢
  obtain ⟨q0, q1, q2, q3, q4, q5, q6⟩ := rdn7 r7
  refine retG (v := .agg #[.string key, .int .i64 c, .int .i64 1, .slice (some ⟨H.size + 1, 0, none⟩) 1 1, .slice (some ⟨H.size + 1 + 1, 0, none⟩) 1 1, .bool false, .string .empty]) (by simp (disch := omega) only [resV, rvsV, rvV, oneOr, ↓wD, wU, Nat.reduceBEq, reduceCtorEq, Int.reduceEq, Int.reduceLT, Int.reduceLE, Int.reduceNeg, Value.cells, Value.oneCell', Nat.reduceAdd, Nat.reduceEqDiff, fillL, setL, Nat.reduceLeDiff, q0, q1, q2, q3, q4, q5, q6]) ?_
  have he0 : Sz ByteArray.empty := by unfold Sz big; decide
  refine ⟨_, fun x => H.size ≤ x ∧ x < H.size + 3, rfl, ⟨_, _, rfl, ⟨(by decide : (1 : Nat) ≤ big), .inr ⟨H.size + 1, 0, 1, rfl, Nat.le_refl _, fun i hi => ?_⟩⟩, ⟨(by decide : (1 : Nat) ≤ big), .inr ⟨H.size + 1 + 1, 0, 1, rfl, Nat.le_refl _, fun i hi => ?_⟩⟩, ⟨hc, i64_1⟩, hk, he0⟩, fun x hx => ⟨hx.1, by omega⟩, hEx⟩
  · have hi0 : i = 0 := by simp [plainH] at hi; omega
    subst hi0
    exact ⟨⟨by omega, by omega⟩, _, by rw [Nat.zero_mul]; exact r4, rfl, by simp [plainH], i64_0, hk, he0⟩
  · have hi0 : i = 0 := by simp [plainH] at hi; omega
    subst hi0
    exact ⟨⟨by omega, by omega⟩, _, by rw [Nat.zero_mul]; exact r3, rfl, hk, he0⟩
end Go.WK
/-
  The document's example.
-/
namespace Go.WK
open Go Go.Proofs

theorem str1 {H : Hp} {s : ByteArray} (hs : Sz s) (t : Nat) : StrSl (fun x => x = H.size) (H.push (.cells #[.string s] t)) (.slice (some ⟨H.size, 0, none⟩) 1 1) [s] := by
  refine ⟨(by decide : (1 : Nat) ≤ big), .inr ⟨H.size, 0, 1, rfl, Nat.le_refl _, fun i hi => ?_⟩⟩
  have hi0 : i = 0 := by simp at hi; omega
  subst hi0
  exact ⟨rfl, _, rdn_new H [_] t 0 1 (Nat.le_refl _), rfl, hs⟩
theorem list_one {L : List Hd} {h : Hd} (hm : ∀ x, x ∈ L ↔ x = h) (hl : L.length = 1) : L = [h] := by
  match L, hl with
  | [x], _ => rw [(hm x).1 (by simp)]
abbrev kk : ByteArray := ⟨#[107]⟩
theorem plain_put : putE [] [plainH kk 1] = 0 := by decide
theorem awake_cl {H : Hp} : Cl Tryz.prog 9 [] H fun r H' => r = .bool true ∧ Ext H H' := by
  have hkk : Sz kk := by unfold Sz big; decide
  refine cl_of mixed c_watershedlaw16_awake (Nat.le_of_ble_eq_true rfl) ?_
  simp only [fwp, ir_watershedlaw16_awake, argF, Nat.reduceAdd]
  refine w_reg fun K hK => ?_
  simp (disch := omega) only [↓wD, wU, Nat.reduceBEq, reduceCtorEq, Int.reduceEq, Int.reduceLT, Int.reduceLE, Int.reduceNeg, Value.cells, Value.oneCell', Nat.reduceAdd, Nat.reduceEqDiff, fillL, setL, Nat.reduceLeDiff, ]
  refine hK _ _ ?_
  clear hK K
  refine w_reg fun K hK => ?_
  simp (disch := omega) only [↓wD, wU, Nat.reduceBEq, reduceCtorEq, Int.reduceEq, Int.reduceLT, Int.reduceLE, Int.reduceNeg, Value.cells, Value.oneCell', Nat.reduceAdd, Nat.reduceEqDiff, fillL, setL, Nat.reduceLeDiff, ]
  refine w_call (New_cl) ?_
  rintro _ H1 ⟨rfl, hE1, hT1⟩
  simp (disch := omega) only [↓wD, wU, Nat.reduceBEq, reduceCtorEq, Int.reduceEq, Int.reduceLT, Int.reduceLE, Int.reduceNeg, Value.cells, Value.oneCell', Nat.reduceAdd, Nat.reduceEqDiff, fillL, setL, Nat.reduceLeDiff, ]
  refine hK _ _ ?_
  clear hK K
  refine w_reg fun K hK => ?_
  simp (disch := omega) only [↓wD, wU, Nat.reduceBEq, reduceCtorEq, Int.reduceEq, Int.reduceLT, Int.reduceLE, Int.reduceNeg, Value.cells, Value.oneCell', Nat.reduceAdd, Nat.reduceEqDiff, fillL, setL, Nat.reduceLeDiff, ]
  refine w_call (plain_cl kk 1 hkk i64_1) ?_
  rintro _ H2 ⟨cs, G2, rfl, he, hG2, hE2⟩
  have he' := he
  obtain ⟨va, vr, ecs, -⟩ := he'
  rw [ecs]
  simp (disch := omega) only [↓wD, wU, Nat.reduceBEq, reduceCtorEq, Int.reduceEq, Int.reduceLT, Int.reduceLE, Int.reduceNeg, Value.cells, Value.oneCell', Nat.reduceAdd, Nat.reduceEqDiff, fillL, setL, Nat.reduceLeDiff, ]
  rw [← ecs]
  have hp1 := cell_lt hT1.c0
  have hs2 := hE2.size
  have hE3 : Ext H2 (H2.push (.cells cs.toArray 35)) := (Ext.refl _).push _
  refine w_call (Put_cl (hT1.ext (hE2.trans hE3)) WF.nil (he.sl1 35) (fun x hx => by
      refine ⟨fun h => h, fun e => ?_⟩
      rcases hx with hx | hx
      · have := (hG2 x hx).1; omega
      · omega)) ?_
  rintro _ H3 ⟨rfl, hk3, L, M, G, v, hW, hT, hGr, hput, -⟩
  obtain ⟨hmem, hlen⟩ := hput plain_put
  have hL : L = [plainH kk 1] := list_one (by intro x; rw [hmem x]; simp) (by rw [hlen]; rfl)
  subst hL
  rw [plain_put]
  simp (disch := omega) only [↓wD, wU, Nat.reduceBEq, reduceCtorEq, Int.reduceEq, Int.reduceLT, Int.reduceLE, Int.reduceNeg, Value.cells, Value.oneCell', Nat.reduceAdd, Nat.reduceEqDiff, fillL, setL, Nat.reduceLeDiff, ]
  refine hK _ _ ?_
  clear hK K
  have hE13 : Ext H H3 := ⟨Nat.le_trans ((hE1.trans hE2).trans hE3).size hk3.1, fun b hb => by
    have := hE1.size
    rw [hk3.2 b (Nat.lt_of_lt_of_le hb ((hE1.trans hE2).trans hE3).size) ⟨fun h => h, by omega⟩, ((hE1.trans hE2).trans hE3).2 b hb]⟩
  refine w_reg fun K hK => ?_
  simp (disch := omega) only [↓wD, wU, Nat.reduceBEq, reduceCtorEq, Int.reduceEq, Int.reduceLT, Int.reduceLE, Int.reduceNeg, Value.cells, Value.oneCell', Nat.reduceAdd, Nat.reduceEqDiff, fillL, setL, Nat.reduceLeDiff, ]
  have hE4 : Ext H3 (H3.push (.cells #[.string kk] 9)) := (Ext.refl _).push _
  refine w_call (Busy_cl ⟨1, 1⟩ (hT.ext hE4) hW.sorted hW.sm (str1 hkk 9)) ?_
  rintro _ H5 ⟨hE5, a, b, rfl, hb⟩
  have hb0 : b = false := by
    rcases hb with ⟨_, x, hx, _, hne, _⟩ | ⟨h, _⟩
    · simp at hx; subst hx; exact absurd rfl hne
    · exact h
  subst hb0
  simp (disch := omega) only [↓wD, wU, Nat.reduceBEq, reduceCtorEq, Int.reduceEq, Int.reduceLT, Int.reduceLE, Int.reduceNeg, Value.cells, Value.oneCell', Nat.reduceAdd, Nat.reduceEqDiff, fillL, setL, Nat.reduceLeDiff, ]
  refine hK _ _ ?_
  clear hK K
  have hE6 : Ext H5 (H5.push (.cells #[.int .i64 a.client, .int .i64 a.num] 24)) := (Ext.refl _).push _
  generalize H5.push (.cells #[.int .i64 a.client, .int .i64 a.num] 24) = H6 at hE6 ⊢
  refine w_reg fun K hK => ?_
  simp (disch := omega) only [↓wD, wU, Nat.reduceBEq, reduceCtorEq, Int.reduceEq, Int.reduceLT, Int.reduceLE, Int.reduceNeg, Value.cells, Value.oneCell', Nat.reduceAdd, Nat.reduceEqDiff, fillL, setL, Nat.reduceLeDiff, ]
  have hE7 : Ext H6 (H6.push (.cells #[.string kk] 9)) := (Ext.refl _).push _
  have hE37 := ((hE4.trans hE5).trans hE6).trans hE7
  refine w_call (Busy_cl ⟨2, 1⟩ (hT.ext hE37) hW.sorted hW.sm (str1 hkk 9)) ?_
  rintro _ H8 ⟨hE8, a2, b2, rfl, hb2⟩
  have hb1 : b2 = true ∧ a2 = ⟨1, 1⟩ := by
    rcases hb2 with ⟨h, x, hx, _, _, e⟩ | ⟨_, _, h⟩
    · simp at hx; subst hx; exact ⟨h, e⟩
    · have := h (plainH kk 1) (by simp) rfl
      cases this
  obtain ⟨rfl, rfl⟩ := hb1
  simp (disch := omega) only [↓wD, wU, Nat.reduceBEq, reduceCtorEq, Int.reduceEq, Int.reduceLT, Int.reduceLE, Int.reduceNeg, Value.cells, Value.oneCell', Nat.reduceAdd, Nat.reduceEqDiff, fillL, setL, Nat.reduceLeDiff, ]
  refine hK _ _ ?_
  clear hK K
  have hE9 : Ext H8 (H8.push (.cells #[.int .i64 1, .int .i64 1] 24)) := (Ext.refl _).push _
  have hr9 : rdn (H8.push (.cells #[.int .i64 1, .int .i64 1] 24)) H8.size 0 2 = some [.int .i64 1, .int .i64 1] := rdn_new H8 [_, _] 24 0 2 (Nat.le_refl _)
  generalize H8.push (.cells #[.int .i64 1, .int .i64 1] 24) = H9 at hE9 hr9 ⊢
  have hE39 := (hE37.trans hE8).trans hE9
  refine w_reg fun K hK => ?_
  simp (disch := omega) only [↓wD, wU, Nat.reduceBEq, reduceCtorEq, Int.reduceEq, Int.reduceLT, Int.reduceLE, Int.reduceNeg, Value.cells, Value.oneCell', Nat.reduceAdd, Nat.reduceEqDiff, fillL, setL, Nat.reduceLeDiff, hr9, leavesEq, leafEq]
  refine w_call (Many_cl (hT.ext hE39)) ?_
  rintro _ _ ⟨rfl, rfl⟩
  simp (disch := omega) only [↓wD, wU, Nat.reduceBEq, reduceCtorEq, Int.reduceEq, Int.reduceLT, Int.reduceLE, Int.reduceNeg, Value.cells, Value.oneCell', Nat.reduceAdd, Nat.reduceEqDiff, fillL, setL, Nat.reduceLeDiff, cast1]
  refine hK _ _ ?_
  clear hK K
  refine w_ret ?_
  repeat (first | with_reducible refine q_n ?_ | with_reducible refine q_e ?_ | with_reducible refine q_r ?_ | with_reducible refine bq_n ?_ | with_reducible refine bq_e ?_ | with_reducible refine bq_r ?_ | with_reducible refine bq_o rfl ?_)
  refine ret1 (by (try simp only [ev_tmp, ev_const, upd_apply, Nat.reduceBEq, cond_true, cond_false, ]); rfl) ?_
  exact ⟨rfl, hE13.trans hE39⟩
end Go.WK
/-
  HoldsOne.
-/
namespace Go.WK
open Go Go.Proofs

theorem right_key {h : Hd} (hr : rightB h = true) : isKey h.key = true := by
  simp only [rightB, actsB, Bool.and_eq_true, decide_eq_true_eq, List.all_eq_true] at hr
  obtain ⟨⟨⟨⟨⟨⟨⟨h1, -⟩, ⟨h2, -⟩, h3⟩, -⟩, -⟩, -⟩, -⟩, -⟩ := hr
  cases hl : h.acts with
  | nil => rw [hl] at h2; simp at h2
  | cons a l =>
    have e := h1 a (by rw [hl]; simp)
    have k := h3 a (by rw [hl]; simp)
    simp only [actB, Bool.and_eq_true] at k
    rw [← e]; exact k.1
theorem sless_empty (k : ByteArray) : sless k .empty = false := by
  unfold sless
  have : ByteArray.empty.toList = [] := by simp [ByteArray.toList, ByteArray.toList.loop]
  rw [this]
  cases k.toList <;> rfl
theorem has_all {k : ByteArray} (h : isKey k = true) : spHas .empty .empty k = true := by
  simp [spHas, spRight, spAbove, h, sless_empty]
theorem WF.all {L : List Hd} (h : WF L) : (L.filter fun x => spHas .empty .empty x.key) = L :=
  List.filter_eq_self.2 fun x hx => has_all (right_key (h.right x hx))
theorem cnt_eq {key : ByteArray} : ∀ {L : List Hd}, Sorted L → L.countP (fun h => decide (h.key = key)) = if hasK L key then 1 else 0
  | [], _ => rfl
  | a :: L, hs => by
    have hs' := List.pairwise_cons.1 hs
    have ih := @cnt_eq key L hs'.2
    rw [List.countP_cons, ih]
    by_cases h : a.key = key
    · have hno : hasK L key = false := by
        cases hh : hasK L key with
        | false => rfl
        | true =>
          obtain ⟨x, hx, hk⟩ := hasK_iff.1 hh
          have := hs'.1 x hx
          rw [h, hk, sless_irrefl] at this; cases this
      have hyes : hasK (a :: L) key = true := hasK_iff.2 ⟨a, by simp, h⟩
      simp [hno, hyes, h]
    · have : hasK (a :: L) key = hasK L key := by
        unfold hasK; rw [List.any_cons]; simp [h]
      simp [this, h]
theorem put_there {L : List Hd} {x : Hd} (hW : WF L) (hx : x ∈ L) : putE L [x] = 7 := by
  unfold putE
  rw [if_neg, if_pos]
  · simp only [List.any_cons, List.any_nil, Bool.or_false]
    exact hasK_iff.2 ⟨x, hx, rfl⟩
  · simp [hW.right x hx]

theorem any1 (key : ByteArray) (h : Hd) : ([key].any fun x => decide (h.key = x)) = decide (h.key = key) := by simp
theorem fkey_len {L : List Hd} {key : ByteArray} (hs : Sorted L) : (L.filter fun h => [key].any fun x => decide (h.key = x)).length = if hasK L key then 1 else 0 := by
  simp only [any1]
  rw [← List.countP_eq_length_filter, cnt_eq hs]
theorem fkey_one {L : List Hd} {key : ByteArray} {x : Hd} (hs : Sorted L) (hx : x ∈ L) (hk : x.key = key) : (L.filter fun h => [key].any fun x => decide (h.key = x)) = [x] := by
  have hh : hasK L key = true := hasK_iff.2 ⟨x, hx, hk⟩
  have h1 := fkey_len (key := key) hs
  rw [hh] at h1
  have h2 : x ∈ L.filter fun h => [key].any fun x => decide (h.key = x) := by simp [hx, hk]
  obtain ⟨y, hf⟩ := List.length_eq_one_iff.1 h1
  rw [hf] at h2 ⊢
  simp at h2
  rw [h2]
theorem fkey_rest {L : List Hd} {key : ByteArray} (hs : Sorted L) : (L.filter fun h => ![key].any fun x => decide (h.key = x)).length + (if hasK L key then 1 else 0) = L.length := by
  have h1 := fkey_len (key := key) hs
  rw [← h1]
  have h2 := List.length_eq_countP_add_countP (fun h : Hd => [key].any fun x => decide (h.key = x)) (l := L)
  rw [List.countP_eq_length_filter, List.countP_eq_length_filter] at h2
  have h3 : (fun h : Hd => decide ¬([key].any fun x => decide (h.key = x)) = true) = fun h : Hd => ![key].any fun x => decide (h.key = x) := by
    funext h
    cases [key].any fun x => decide (h.key = x) <;> rfl
  rw [h3] at h2
  omega
theorem WF.filter {L : List Hd} (h : WF L) (q : Hd → Bool) : WF (L.filter q) :=
  ⟨h.sorted.sublist List.filter_sublist, Nat.le_trans (List.length_filter_le _ _) h.le, fun x hx => h.right x (List.mem_filter.1 hx).1⟩
def reName (h : Hd) : Hd := { h with name := ⟨1 + h.name.client.tmod 8, 1⟩ }
theorem right_reName {h : Hd} (hr : rightB h = true) : rightB (reName h) = true ∧ 1 ≤ h.name.client ∧ h.name.client ≤ 8 := by
  unfold rightB at hr ⊢
  simp only [reName]
  simp only [Bool.and_eq_true] at hr ⊢
  obtain ⟨⟨⟨⟨⟨⟨⟨h1, h2⟩, h3⟩, h4⟩, h5⟩, h6⟩, h7⟩, h8⟩ := hr
  simp only [nameB, Bool.and_eq_true, decide_eq_true_eq] at h2
  have hm : h.name.client.tmod 8 = h.name.client % 8 := Int.tmod_eq_emod_of_nonneg (by omega)
  refine ⟨⟨⟨⟨⟨⟨⟨⟨h1, ?_⟩, h3⟩, h4⟩, h5⟩, h6⟩, h7⟩, h8⟩, by omega, by omega⟩
  simp only [nameB, Bool.and_eq_true, decide_eq_true_eq]
  rw [hm]
  omega
theorem put_free {L : List Hd} {x : Hd} (hW : WF L) (hx : x ∈ L) : putE (L.filter fun h => ![x.key].any fun k => decide (h.key = k)) [reName x] = 0 := by
  have hr := (right_reName (hW.right x hx)).1
  have hlen := fkey_rest (key := x.key) hW.sorted
  rw [if_pos (hasK_iff.2 ⟨x, hx, rfl⟩)] at hlen
  unfold putE
  rw [if_neg, if_neg, if_neg]
  · have := hW.le
    simp only [List.length_cons, List.length_nil]
    omega
  · simp only [List.any_cons, List.any_nil, Bool.or_false]
    intro hh
    obtain ⟨y, hy, hk⟩ := hasK_iff.1 hh
    have := (List.mem_filter.1 hy).2
    simp [hk, reName] at this
  · simp [hr]
theorem nm_ne {a n : Nm} (h : a ≠ n) : (decide (a.client = n.client) && decide (a.num = n.num)) = false := by
  cases hh : (decide (a.client = n.client) && decide (a.num = n.num)) with
  | false => rfl
  | true =>
    simp only [Bool.and_eq_true, decide_eq_true_eq] at hh
    exact absurd (by cases a; cases n; simp_all) h
theorem nm_self {a : Nm} : (decide (a.client = a.client) && decide (a.num = a.num)) = true := by simp

theorem KeepOn.low {A B C : Hp} {K : Nat → Prop} (hE : Ext A B) (hk : KeepOn K B C) (hK : ∀ b, b < A.size → K b) : Ext A C :=
  ⟨Nat.le_trans hE.1 hk.1, fun b hb => by rw [hk.2 b (Nat.lt_of_lt_of_le hb hE.1) (hK b hb), hE.2 b hb]⟩

theorem HoldsOne_cl {S : Nat → Prop} {H : Hp} {v : Value} {l : List Hd} {key : ByteArray} {n : Nm} (hv : HdSl S H v l) (hk : Sz key) (hn : n.ok) :
    ClL Tryz.prog 3 [v, .string key, .agg #[.int .i64 n.client, .int .i64 n.num]] H fun r H' => r = .bool true ∧ Ext H H' := by
  refine clL_of mixed c_watershedlaw16_HoldsOne (Nat.le_of_ble_eq_true rfl) ?_
  simp only [fwp, ir_watershedlaw16_HoldsOne, argF, Nat.reduceAdd]
  unfold Sz big at hk
  obtain ⟨la, lc, rfl, hlc, hll, -⟩ := SlP.open hv
  refine w_reg fun K hK => ?_
  simp (disch := omega) only [↓wD, wU, Nat.reduceBEq, reduceCtorEq, Int.reduceEq, Int.reduceLT, Int.reduceLE, Int.reduceNeg, Value.cells, Value.oneCell', Nat.reduceAdd, Nat.reduceEqDiff, fillL, setL, Nat.reduceLeDiff, ]
  refine hK _ _ ?_
  clear hK K
  have hE0 : Ext H (H.push (.cells #[.int .i64 n.client, .int .i64 n.num] 24)) := (Ext.refl _).push _
  have hrn : rdn (H.push (.cells #[.int .i64 n.client, .int .i64 n.num] 24)) H.size 0 2 = some [.int .i64 n.client, .int .i64 n.num] := rdn_new H [_, _] 24 0 2 (Nat.le_refl _)
  generalize H.push (.cells #[.int .i64 n.client, .int .i64 n.num] 24) = H0 at hE0 hrn ⊢
  have hnlt := cell_lt (rdn2 hrn).1
  refine w_seq (w_seq ?_)
  refine w_reg fun K hK => ?_
  simp (disch := omega) only [↓wD, wU, Nat.reduceBEq, reduceCtorEq, Int.reduceEq, Int.reduceLT, Int.reduceLE, Int.reduceNeg, Value.cells, Value.oneCell', Nat.reduceAdd, Nat.reduceEqDiff, fillL, setL, Nat.reduceLeDiff, ]
  refine w_call (awake_cl) ?_
  rintro _ H1 ⟨rfl, hE1⟩
  simp (disch := omega) only [↓wD, wU, Nat.reduceBEq, reduceCtorEq, Int.reduceEq, Int.reduceLT, Int.reduceLE, Int.reduceNeg, Value.cells, Value.oneCell', Nat.reduceAdd, Nat.reduceEqDiff, fillL, setL, Nat.reduceLeDiff, ]
  refine hK _ _ ?_
  clear hK K
  refine w_false (by simp only [ev_tmp, ev_const, upd_apply, Nat.reduceBEq, cond_true, cond_false, Bool.not_true, Bool.not_false, ]) ?_
  refine w_skip ?_
  repeat (first | with_reducible refine q_n ?_ | with_reducible refine q_e ?_ | with_reducible refine q_r ?_ | with_reducible refine bq_n ?_ | with_reducible refine bq_e ?_ | with_reducible refine bq_r ?_ | with_reducible refine bq_o rfl ?_)
  have hE01 := hE0.trans hE1
  refine w_seq (w_seq ?_)
  refine w_reg fun K hK => ?_
  simp (disch := omega) only [↓wD, wU, Nat.reduceBEq, reduceCtorEq, Int.reduceEq, Int.reduceLT, Int.reduceLE, Int.reduceNeg, Value.cells, Value.oneCell', Nat.reduceAdd, Nat.reduceEqDiff, fillL, setL, Nat.reduceLeDiff, ]
  refine w_call (HoldsOf_cl 1500 (hv.ext hE01)) ?_
  rintro _ H1' ⟨e, m, rfl⟩
  subst e
  by_cases hm : 1500 < m
  · simp (disch := omega) only [↓wD, wU, Nat.reduceBEq, reduceCtorEq, Int.reduceEq, Int.reduceLT, Int.reduceLE, Int.reduceNeg, Value.cells, Value.oneCell', Nat.reduceAdd, Nat.reduceEqDiff, fillL, setL, Nat.reduceLeDiff, hm]
    refine hK _ _ ?_
    clear hK K
    refine w_true (by simp only [ev_tmp, ev_const, upd_apply, Nat.reduceBEq, cond_true, cond_false, Bool.not_true, Bool.not_false, ]) ?_
    refine w_reg fun K hK => ?_
    simp (disch := omega) only [↓wD, wU, Nat.reduceBEq, reduceCtorEq, Int.reduceEq, Int.reduceLT, Int.reduceLE, Int.reduceNeg, Value.cells, Value.oneCell', Nat.reduceAdd, Nat.reduceEqDiff, fillL, setL, Nat.reduceLeDiff, ]
    refine hK _ _ ?_
    clear hK K
    refine w_ret ?_
    repeat (first | with_reducible refine q_n ?_ | with_reducible refine q_e ?_ | with_reducible refine q_r ?_ | with_reducible refine bq_n ?_ | with_reducible refine bq_e ?_ | with_reducible refine bq_r ?_ | with_reducible refine bq_o rfl ?_)
    refine ret1 (by (try simp only [ev_tmp, ev_const, upd_apply, Nat.reduceBEq, cond_true, cond_false, ]); rfl) ?_
    exact ⟨rfl, hE01⟩
  by_cases hk2 : (1500 : Int) < key.size
  · simp (disch := omega) only [↓wD, wU, Nat.reduceBEq, reduceCtorEq, Int.reduceEq, Int.reduceLT, Int.reduceLE, Int.reduceNeg, Value.cells, Value.oneCell', Nat.reduceAdd, Nat.reduceEqDiff, fillL, setL, Nat.reduceLeDiff, hm, hk2]
    refine hK _ _ ?_
    clear hK K
    refine w_true (by simp only [ev_tmp, ev_const, upd_apply, Nat.reduceBEq, cond_true, cond_false, Bool.not_true, Bool.not_false, ]) ?_
    refine w_reg fun K hK => ?_
    simp (disch := omega) only [↓wD, wU, Nat.reduceBEq, reduceCtorEq, Int.reduceEq, Int.reduceLT, Int.reduceLE, Int.reduceNeg, Value.cells, Value.oneCell', Nat.reduceAdd, Nat.reduceEqDiff, fillL, setL, Nat.reduceLeDiff, ]
    refine hK _ _ ?_
    clear hK K
    refine w_ret ?_
    repeat (first | with_reducible refine q_n ?_ | with_reducible refine q_e ?_ | with_reducible refine q_r ?_ | with_reducible refine bq_n ?_ | with_reducible refine bq_e ?_ | with_reducible refine bq_r ?_ | with_reducible refine bq_o rfl ?_)
    refine ret1 (by (try simp only [ev_tmp, ev_const, upd_apply, Nat.reduceBEq, cond_true, cond_false, ]); rfl) ?_
    exact ⟨rfl, hE01⟩
  simp (disch := omega) only [↓wD, wU, Nat.reduceBEq, reduceCtorEq, Int.reduceEq, Int.reduceLT, Int.reduceLE, Int.reduceNeg, Value.cells, Value.oneCell', Nat.reduceAdd, Nat.reduceEqDiff, fillL, setL, Nat.reduceLeDiff, hm, hk2]
  refine hK _ _ ?_
  clear hK K
  refine w_false (by simp only [ev_tmp, ev_const, upd_apply, Nat.reduceBEq, cond_true, cond_false, Bool.not_true, Bool.not_false, ]) ?_
  refine w_skip ?_
  repeat (first | with_reducible refine q_n ?_ | with_reducible refine q_e ?_ | with_reducible refine q_r ?_ | with_reducible refine bq_n ?_ | with_reducible refine bq_e ?_ | with_reducible refine bq_r ?_ | with_reducible refine bq_o rfl ?_)
  have hrn1 := rdn_ext hE1 hrn
  have hnlt1 := Nat.lt_of_lt_of_le hnlt hE1.size
  refine w_reg fun K hK => ?_
  simp (disch := omega) only [↓wD, wU, Nat.reduceBEq, reduceCtorEq, Int.reduceEq, Int.reduceLT, Int.reduceLE, Int.reduceNeg, Value.cells, Value.oneCell', Nat.reduceAdd, Nat.reduceEqDiff, fillL, setL, Nat.reduceLeDiff, ]
  refine w_call (made_cl (hv.ext hE01)) ?_
  rintro _ H2 ⟨rfl, hE2, L, M, G, vt, hT, hW, hlo⟩
  simp (disch := omega) only [↓wD, wU, Nat.reduceBEq, reduceCtorEq, Int.reduceEq, Int.reduceLT, Int.reduceLE, Int.reduceNeg, Value.cells, Value.oneCell', Nat.reduceAdd, Nat.reduceEqDiff, fillL, setL, Nat.reduceLeDiff, ]
  refine hK _ _ ?_
  clear hK K
  have hE02 := hE01.trans hE2
  have hrn2 := rdn_ext hE2 hrn1
  have he0 : Sz ByteArray.empty := by unfold Sz big; decide
  refine w_reg fun K hK => ?_
  simp (disch := omega) only [↓wD, wU, Nat.reduceBEq, reduceCtorEq, Int.reduceEq, Int.reduceLT, Int.reduceLE, Int.reduceNeg, Value.cells, Value.oneCell', Nat.reduceAdd, Nat.reduceEqDiff, fillL, setL, Nat.reduceLeDiff, ]
  refine w_call (In_cl .empty .empty hT hW.sm he0 he0) ?_
  rintro _ H3 ⟨hE3, Ma, Ga, hda, hla, hra⟩
  rw [hW.all] at hra
  simp (disch := omega) only [↓wD, wU, Nat.reduceBEq, reduceCtorEq, Int.reduceEq, Int.reduceLT, Int.reduceLE, Int.reduceNeg, Value.cells, Value.oneCell', Nat.reduceAdd, Nat.reduceEqDiff, fillL, setL, Nat.reduceLeDiff, ]
  refine hK _ _ ?_
  clear hK K
  rename_i va
  have hrn3 := rdn_ext hE3 hrn2
  have hE03 := hE02.trans hE3
  have hLl := hW.le
  have hsl := hra.slp (by unfold big; omega)
  have hR : ∀ x, (Ma x ∨ Ga x) → H2.size ≤ x ∧ x < H3.size := hla
  generalize hRd : (fun x => Ma x ∨ Ga x) = R at hsl
  have hR : ∀ x, R x → H2.size ≤ x ∧ x < H3.size := by subst hRd; exact hla
  clear hRd hla hra hda
  obtain ⟨aa, ac, rfl, hac, -, hel⟩ := SlP.open hsl
  have hT3 := hT.ext hE3
  have hs12 := hE2.size
  have hs23 := hE3.size
  have hs01 := hE01.size
  generalize hpe : H1'.size = p at hT hT3 hlo hs12 ⊢
  have hp2 : p < H2.size := cell_lt hT.c0
  have hMlt : ∀ x, M x → x < H2.size := fun x hx => hT.lt x (.inl hx)
  refine w_reg fun K hK => ?_
  simp (disch := omega) only [↓wD, wU, Nat.reduceBEq, reduceCtorEq, Int.reduceEq, Int.reduceLT, Int.reduceLE, Int.reduceNeg, Value.cells, Value.oneCell', Nat.reduceAdd, Nat.reduceEqDiff, fillL, setL, Nat.reduceLeDiff, ]
  refine hK _ _ ?_
  clear hK K
  refine w_seq (w_seq ?_)
  refine w_reg fun K hK => ?_
  simp (disch := omega) only [↓wD, wU, Nat.reduceBEq, reduceCtorEq, Int.reduceEq, Int.reduceLT, Int.reduceLE, Int.reduceNeg, Value.cells, Value.oneCell', Nat.reduceAdd, Nat.reduceEqDiff, fillL, setL, Nat.reduceLeDiff, ]
  refine hK _ _ ?_
  clear hK K
  refine w_blk (w_loop (fun n' f H' => f 1 = .string key ∧ f 5 = .pointer (some ⟨H.size, 0, none⟩) ∧ f 7 = .pointer (some ⟨p, 0, none⟩) ∧ f 8 = .slice aa L.length ac ∧ KeepOn (fun x => ¬ M x ∧ x ≠ p) H3 H' ∧ (∃ M' G' v', Tab M' G' H' p L v' ∧ Grown M G M' G' H3.size) ∧ ∃ i : Nat, f 10 = .int .i64 i ∧ i ≤ L.length ∧ f 9 = .int .i64 ((L.take i).countP fun h => decide (h.key = key)) ∧ n' = L.length - i) _ ⟨(by simp only [ev_tmp, ev_const, upd_apply, Nat.reduceBEq, cond_true, cond_false, ]), (by simp only [ev_tmp, ev_const, upd_apply, Nat.reduceBEq, cond_true, cond_false, ]), (by simp only [ev_tmp, ev_const, upd_apply, Nat.reduceBEq, cond_true, cond_false, ]), (by simp only [ev_tmp, ev_const, upd_apply, Nat.reduceBEq, cond_true, cond_false, ]), KeepOn.refl _ _, ⟨M, G, vt, hT3, Grown.refl⟩, 0, (by simp only [ev_tmp, ev_const, upd_apply, Nat.reduceBEq, cond_true, cond_false, ]; rfl), Nat.zero_le _, (by simp only [ev_tmp, ev_const, upd_apply, Nat.reduceBEq, cond_true, cond_false, ]; rfl), rfl⟩ ?_)
  rintro n' f H' ⟨f1, f5, f7, f8, hKp, ⟨M', G', v', hT', hGr⟩, i, f10, hi, f9, rfl⟩
  have hkR : ∀ x, R x → x < H3.size → H'[x]? = H3[x]? := fun x hx hx' => hKp.2 x hx' ⟨fun hm => by have := hMlt x hm; have := (hR x hx).1; omega, by have := (hR x hx).1; omega⟩
  refine w_seq (w_seq ?_)
  by_cases hil : i < L.length
  · obtain ⟨b, o, rfl, hRb, cs, hcs, he⟩ := hel i hil
    have hb3 := hR b hRb
    have hcs' := rdn_block (hkR b hRb hb3.2) hcs
    have he1 : ElHd R H' cs L[i] := he.mono (fun _ h => h) hkR
    have htake : L.take (i + 1) = L.take i ++ [L[i]] := by
      rw [List.take_add_one, List.getElem?_eq_getElem hil]; rfl
    have he' := he1
    obtain ⟨xva, xvr, ecs, -⟩ := he'
    rw [ecs] at hcs'
    obtain ⟨c0, c1, c2, c3, c4, c5, c6⟩ := rdn7 hcs'
    refine w_reg fun K hK => ?_
    simp (disch := omega) only [↓wD, wU, Nat.reduceBEq, reduceCtorEq, Int.reduceEq, Int.reduceLT, Int.reduceLE, Int.reduceNeg, Value.cells, Value.oneCell', Nat.reduceAdd, Nat.reduceEqDiff, fillL, setL, Nat.reduceLeDiff, f8, f10, hil]
    refine hK _ _ ?_
    clear hK K
    refine w_true (by simp only [ev_tmp, ev_const, upd_apply, Nat.reduceBEq, cond_true, cond_false, Bool.not_true, Bool.not_false, ]) ?_
    refine w_skip ?_
    repeat (first | with_reducible refine q_n ?_ | with_reducible refine q_e ?_ | with_reducible refine q_r ?_ | with_reducible refine bq_n ?_ | with_reducible refine bq_e ?_ | with_reducible refine bq_r ?_ | with_reducible refine bq_o rfl ?_)
    refine w_seq (w_blk ?_)
    refine w_seq ?_
    have hE4 : Ext H' (H'.push (.cells cs.toArray 35)) := (Ext.refl _).push _
    have hs3' := hKp.1
    have put := Put_cl (hT'.ext hE4) hW (he1.sl1 35) (fun x hx => by
      have hlt' : ∀ y, M' y → y < H2.size ∨ H3.size ≤ y := fun y hy => (hGr.1 y hy).elim (fun h => .inl (hMlt y h)) .inr
      rcases hx with hx | hx
      · have := hR x hx
        exact ⟨fun hm => by have := hlt' x hm; omega, by omega⟩
      · exact ⟨fun hm => by have := hT'.lt x (.inl hm); omega, by omega⟩)
    rw [put_there hW (List.getElem_mem hil)] at put
    have hbM : ¬ M' b ∧ b ≠ p := ⟨fun hm => by
      rcases hGr.1 b hm with h | h
      · have := hMlt b h; omega
      · omega, by omega⟩
    have hb' : b < H'.size := Nat.lt_of_lt_of_le hb3.2 hs3'
    refine w_cut (fun g H'' => g 63 = .bool false ∧ g 1 = .string key ∧ g 5 = .pointer (some ⟨H.size, 0, none⟩) ∧ g 7 = .pointer (some ⟨p, 0, none⟩) ∧ g 8 = .slice (some ⟨b, o, none⟩) L.length ac ∧ KeepOn (fun x => ¬ M x ∧ x ≠ p) H3 H'' ∧ (∃ M' G' v', Tab M' G' H'' p L v' ∧ Grown M G M' G' H3.size) ∧ g 10 = .int .i64 i ∧ g 9 = .int .i64 ((L.take i).countP fun h => decide (h.key = key))) ?_ ?_
    · have after : ∀ (H5 : Hp) L5 M5 G5 v5, KeepOn (fun x => ¬ M' x ∧ x ≠ p) (H'.push (.cells cs.toArray 35)) H5 → Tab M5 G5 H5 p L5 v5 → L5 = L → Grown M' G' M5 G5 (H'.push (.cells cs.toArray 35)).size → KeepOn (fun x => ¬ M x ∧ x ≠ p) H3 H5 ∧ ∃ M' G' v', Tab M' G' H5 p L v' ∧ Grown M G M' G' H3.size := by
        intro H5 L5 M5 G5 v5 hk5 hT5 hL5 hG5
        subst hL5
        have hs4 := hE4.size
        refine ⟨⟨Nat.le_trans hs3' (Nat.le_trans hs4 hk5.1), fun x hx hx' => ?_⟩, M5, G5, v5, hT5, hGr.trans hG5 (by omega)⟩
        rw [hk5.2 x (by omega) ⟨fun hm => ?_, hx'.2⟩, hE4.2 x (by omega), hKp.2 x hx hx']
        rcases hGr.1 x hm with h | h
        · exact hx'.1 h
        · omega
      refine w_lin1 (fun x => x = b) fun K hK => ?_
      by_cases hi0 : i = 0
      · have z1 : ((0 : Int) < (i : Int)) = False := by simp [hi0]
        have z2 : (0 < i) = False := by simp [hi0]
        simp (disch := omega) only [↓l_nil, ↓l_f, ↓l_t, ↓o_s, ↓o_e, ↓o_g, ↓o_ge, ↓k_ld, ↓k_ldn, isemS, ↓wD, wU, Nat.reduceBEq, reduceCtorEq, Int.reduceEq, Int.reduceLT, Int.reduceLE, Int.reduceNeg, Value.cells, Value.oneCell', Nat.reduceAdd, Nat.reduceEqDiff, fillL, setL, Nat.reduceLeDiff, f7, f8, f10, hil, hcs', z1, z2]
        rw [← ecs]
        refine ⟨hE4.on _, ?_⟩
        refine w_call (put) ?_
        rintro _ H5 ⟨rfl, hk5, L5, M5, G5, v5, hW5, hT5, hG5, -, hsame⟩
        simp (disch := omega) only [↓l_nil, ↓l_f, ↓l_t, ↓o_s, ↓o_e, ↓o_g, ↓o_ge, ↓k_ld, ↓k_ldn, isemS, ↓wD, wU, Nat.reduceBEq, reduceCtorEq, Int.reduceEq, Int.reduceLT, Int.reduceLE, Int.reduceNeg, Value.cells, Value.oneCell', Nat.reduceAdd, Nat.reduceEqDiff, fillL, setL, Nat.reduceLeDiff, ]
        refine ⟨⟨hk5.1, fun x hx hxb => hk5.2 x hx (by subst hxb; exact hbM)⟩, ?_⟩
        refine hK _ _ ?_
        clear hK K
        repeat (first | with_reducible refine q_n ?_ | with_reducible refine q_e ?_ | with_reducible refine q_r ?_ | with_reducible refine bq_n ?_ | with_reducible refine bq_e ?_ | with_reducible refine bq_r ?_ | with_reducible refine bq_o rfl ?_)
        obtain ⟨q1, q2⟩ := after H5 L5 M5 G5 v5 hk5 hT5 (hsame (by decide)) hG5
        exact ⟨(by simp only [ev_tmp, ev_const, upd_apply, Nat.reduceBEq, cond_true, cond_false, ]), (by simp only [ev_tmp, ev_const, upd_apply, Nat.reduceBEq, cond_true, cond_false, f1]), (by simp only [ev_tmp, ev_const, upd_apply, Nat.reduceBEq, cond_true, cond_false, f5]), (by simp only [ev_tmp, ev_const, upd_apply, Nat.reduceBEq, cond_true, cond_false, f7]), (by simp only [ev_tmp, ev_const, upd_apply, Nat.reduceBEq, cond_true, cond_false, f8]), q1, q2, (by simp only [ev_tmp, ev_const, upd_apply, Nat.reduceBEq, cond_true, cond_false, f10]), (by simp only [ev_tmp, ev_const, upd_apply, Nat.reduceBEq, cond_true, cond_false, f9])⟩
      · obtain ⟨j, hj⟩ : ∃ j, i = j + 1 := ⟨i - 1, by omega⟩
        have hjl : j < L.length := by omega
        obtain ⟨bj, oj, ebj, -, csj, hcsj, hej⟩ := hel j hjl
        simp only [Option.some.injEq, Addr.mk.injEq, and_true] at ebj
        obtain ⟨rfl, rfl⟩ := ebj
        obtain ⟨ya, yr, eyj, -⟩ := hej
        have hcj := rdn_block (hkR b hRb hb3.2) hcsj
        rw [eyj] at hcj
        have cj := (rdn7 hcj).1
        have hsl' : sless L[j].key L[i].key = true := hW.sorted.get hjl hil (by omega)
        have z1 : ((0 : Int) < (i : Int)) = True := by simp; omega
        have z2 : (0 < i) = True := by simp; omega
        have z3 : (i : Int) - 1 = (j : Int) := by omega
        simp (disch := omega) only [↓l_nil, ↓l_f, ↓l_t, ↓o_s, ↓o_e, ↓o_g, ↓o_ge, ↓k_ld, ↓k_ldn, isemS, ↓wD, wU, Nat.reduceBEq, reduceCtorEq, Int.reduceEq, Int.reduceLT, Int.reduceLE, Int.reduceNeg, Value.cells, Value.oneCell', Nat.reduceAdd, Nat.reduceEqDiff, fillL, setL, Nat.reduceLeDiff, f7, f8, f10, hil, hjl, hcs', z1, z2, z3, c0, cj, hsl']
        rw [← ecs]
        refine ⟨hE4.on _, ?_⟩
        refine w_call (put) ?_
        rintro _ H5 ⟨rfl, hk5, L5, M5, G5, v5, hW5, hT5, hG5, -, hsame⟩
        simp (disch := omega) only [↓l_nil, ↓l_f, ↓l_t, ↓o_s, ↓o_e, ↓o_g, ↓o_ge, ↓k_ld, ↓k_ldn, isemS, ↓wD, wU, Nat.reduceBEq, reduceCtorEq, Int.reduceEq, Int.reduceLT, Int.reduceLE, Int.reduceNeg, Value.cells, Value.oneCell', Nat.reduceAdd, Nat.reduceEqDiff, fillL, setL, Nat.reduceLeDiff, ]
        refine ⟨⟨hk5.1, fun x hx hxb => hk5.2 x hx (by subst hxb; exact hbM)⟩, ?_⟩
        refine hK _ _ ?_
        clear hK K
        repeat (first | with_reducible refine q_n ?_ | with_reducible refine q_e ?_ | with_reducible refine q_r ?_ | with_reducible refine bq_n ?_ | with_reducible refine bq_e ?_ | with_reducible refine bq_r ?_ | with_reducible refine bq_o rfl ?_)
        obtain ⟨q1, q2⟩ := after H5 L5 M5 G5 v5 hk5 hT5 (hsame (by decide)) hG5
        exact ⟨(by simp only [ev_tmp, ev_const, upd_apply, Nat.reduceBEq, cond_true, cond_false, ]), (by simp only [ev_tmp, ev_const, upd_apply, Nat.reduceBEq, cond_true, cond_false, f1]), (by simp only [ev_tmp, ev_const, upd_apply, Nat.reduceBEq, cond_true, cond_false, f5]), (by simp only [ev_tmp, ev_const, upd_apply, Nat.reduceBEq, cond_true, cond_false, f7]), (by simp only [ev_tmp, ev_const, upd_apply, Nat.reduceBEq, cond_true, cond_false, f8]), q1, q2, (by simp only [ev_tmp, ev_const, upd_apply, Nat.reduceBEq, cond_true, cond_false, f10]), (by simp only [ev_tmp, ev_const, upd_apply, Nat.reduceBEq, cond_true, cond_false, f9])⟩
    rintro g H5 ⟨g63, g1, g5, g7, g8, hk5, hT5, g10, g9⟩
    refine w_false (by simp only [ev_tmp, ev_const, upd_apply, Nat.reduceBEq, cond_true, cond_false, Bool.not_true, Bool.not_false, g63]) ?_
    refine w_skip ?_
    repeat (first | with_reducible refine q_n ?_ | with_reducible refine q_e ?_ | with_reducible refine q_r ?_ | with_reducible refine bq_n ?_ | with_reducible refine bq_e ?_ | with_reducible refine bq_r ?_ | with_reducible refine bq_o rfl ?_)
    have hcs5 := rdn_block (hk5.2 b hb3.2 ⟨fun hm => by have := hMlt b hm; omega, by omega⟩) hcs
    rw [ecs] at hcs5
    have k0 := (rdn7 hcs5).1
    have hcnt : (L.take (i + 1)).countP (fun h => decide (h.key = key)) = (L.take i).countP (fun h => decide (h.key = key)) + if L[i].key = key then 1 else 0 := by
      rw [htake, List.countP_append]
      simp
    have hcle : (L.take i).countP (fun h => decide (h.key = key)) ≤ L.length := Nat.le_trans List.countP_le_length (by rw [List.length_take]; omega)
    by_cases hkey : L[i].key = key
    · have hT1 : (L[i].key = key) = True := eq_true hkey
      rw [if_pos hkey] at hcnt
      refine w_seq ?_
      refine w_reg fun K hK => ?_
      simp (disch := omega) only [↓wD, wU, Nat.reduceBEq, reduceCtorEq, Int.reduceEq, Int.reduceLT, Int.reduceLE, Int.reduceNeg, Value.cells, Value.oneCell', Nat.reduceAdd, Nat.reduceEqDiff, fillL, setL, Nat.reduceLeDiff, g1, g8, g10, hil, k0, hT1]
      refine hK _ _ ?_
      clear hK K
      refine w_true (by simp only [ev_tmp, ev_const, upd_apply, Nat.reduceBEq, cond_true, cond_false, Bool.not_true, Bool.not_false, ]) ?_
      refine w_reg1 fun K hK => ?_
      simp (disch := omega) only [↓wD, wU, Nat.reduceBEq, reduceCtorEq, Int.reduceEq, Int.reduceLT, Int.reduceLE, Int.reduceNeg, Value.cells, Value.oneCell', Nat.reduceAdd, Nat.reduceEqDiff, fillL, setL, Nat.reduceLeDiff, g9]
      refine hK _ _ ?_
      clear hK K
      repeat (first | with_reducible refine q_n ?_ | with_reducible refine q_e ?_ | with_reducible refine q_r ?_ | with_reducible refine bq_n ?_ | with_reducible refine bq_e ?_ | with_reducible refine bq_r ?_ | with_reducible refine bq_o rfl ?_)
      refine w_reg1 fun K hK => ?_
      simp (disch := omega) only [↓wD, wU, Nat.reduceBEq, reduceCtorEq, Int.reduceEq, Int.reduceLT, Int.reduceLE, Int.reduceNeg, Value.cells, Value.oneCell', Nat.reduceAdd, Nat.reduceEqDiff, fillL, setL, Nat.reduceLeDiff, g10]
      refine hK _ _ ?_
      clear hK K
      repeat (first | with_reducible refine q_n ?_ | with_reducible refine q_e ?_ | with_reducible refine q_r ?_ | with_reducible refine bq_n ?_ | with_reducible refine bq_e ?_ | with_reducible refine bq_r ?_ | with_reducible refine bq_o rfl ?_)
      exact ⟨L.length - (i + 1), by omega, (by simp only [ev_tmp, ev_const, upd_apply, Nat.reduceBEq, cond_true, cond_false, g1]), (by simp only [ev_tmp, ev_const, upd_apply, Nat.reduceBEq, cond_true, cond_false, g5]), (by simp only [ev_tmp, ev_const, upd_apply, Nat.reduceBEq, cond_true, cond_false, g7]), (by simp only [ev_tmp, ev_const, upd_apply, Nat.reduceBEq, cond_true, cond_false, g8]), hk5, hT5, i + 1, (by simp only [ev_tmp, ev_const, upd_apply, Nat.reduceBEq, cond_true, cond_false, ]), by omega, by simp only [ev_tmp, ev_const, upd_apply, Nat.reduceBEq, cond_true, cond_false]; rw [hcnt], rfl⟩
    · have hT1 : (L[i].key = key) = False := eq_false hkey
      rw [if_neg hkey] at hcnt
      refine w_seq ?_
      refine w_reg fun K hK => ?_
      simp (disch := omega) only [↓wD, wU, Nat.reduceBEq, reduceCtorEq, Int.reduceEq, Int.reduceLT, Int.reduceLE, Int.reduceNeg, Value.cells, Value.oneCell', Nat.reduceAdd, Nat.reduceEqDiff, fillL, setL, Nat.reduceLeDiff, g1, g8, g10, hil, k0, hT1]
      refine hK _ _ ?_
      clear hK K
      refine w_false (by simp only [ev_tmp, ev_const, upd_apply, Nat.reduceBEq, cond_true, cond_false, Bool.not_true, Bool.not_false, ]) ?_
      refine w_skip ?_
      repeat (first | with_reducible refine q_n ?_ | with_reducible refine q_e ?_ | with_reducible refine q_r ?_ | with_reducible refine bq_n ?_ | with_reducible refine bq_e ?_ | with_reducible refine bq_r ?_ | with_reducible refine bq_o rfl ?_)
      refine w_reg1 fun K hK => ?_
      simp (disch := omega) only [↓wD, wU, Nat.reduceBEq, reduceCtorEq, Int.reduceEq, Int.reduceLT, Int.reduceLE, Int.reduceNeg, Value.cells, Value.oneCell', Nat.reduceAdd, Nat.reduceEqDiff, fillL, setL, Nat.reduceLeDiff, g10]
      refine hK _ _ ?_
      clear hK K
      repeat (first | with_reducible refine q_n ?_ | with_reducible refine q_e ?_ | with_reducible refine q_r ?_ | with_reducible refine bq_n ?_ | with_reducible refine bq_e ?_ | with_reducible refine bq_r ?_ | with_reducible refine bq_o rfl ?_)
      exact ⟨L.length - (i + 1), by omega, (by simp only [ev_tmp, ev_const, upd_apply, Nat.reduceBEq, cond_true, cond_false, g1]), (by simp only [ev_tmp, ev_const, upd_apply, Nat.reduceBEq, cond_true, cond_false, g5]), (by simp only [ev_tmp, ev_const, upd_apply, Nat.reduceBEq, cond_true, cond_false, g7]), (by simp only [ev_tmp, ev_const, upd_apply, Nat.reduceBEq, cond_true, cond_false, g8]), hk5, hT5, i + 1, (by simp only [ev_tmp, ev_const, upd_apply, Nat.reduceBEq, cond_true, cond_false, ]), by omega, by simp only [ev_tmp, ev_const, upd_apply, Nat.reduceBEq, cond_true, cond_false, g9]; rw [hcnt, Nat.add_zero], rfl⟩
  · refine w_reg fun K hK => ?_
    simp (disch := omega) only [↓wD, wU, Nat.reduceBEq, reduceCtorEq, Int.reduceEq, Int.reduceLT, Int.reduceLE, Int.reduceNeg, Value.cells, Value.oneCell', Nat.reduceAdd, Nat.reduceEqDiff, fillL, setL, Nat.reduceLeDiff, f8, f10, hil]
    refine hK _ _ ?_
    clear hK K
    refine w_false (by simp only [ev_tmp, ev_const, upd_apply, Nat.reduceBEq, cond_true, cond_false, Bool.not_true, Bool.not_false, ]) ?_
    refine w_exit ?_
    repeat (first | with_reducible refine q_n ?_ | with_reducible refine q_e ?_ | with_reducible refine q_r ?_ | with_reducible refine bq_n ?_ | with_reducible refine bq_e ?_ | with_reducible refine bq_r ?_ | with_reducible refine bq_o rfl ?_)
    have hfull : L.take i = L := List.take_of_length_le (by omega)
    rw [hfull, cnt_eq hW.sorted] at f9
    have hs3 := hKp.1
    have hHn : ∀ j, cell H' H.size j = cell H3 H.size j := fun j => cell_block (hKp.2 H.size (by omega) ⟨fun hm => by have := hlo _ (.inl hm); omega, by omega⟩) j
    have hEH : Ext H H' := ⟨by omega, fun x hx => by rw [hKp.2 x (by omega) ⟨fun hm => by have := hlo _ (.inl hm); omega, by omega⟩, hE03.2 x hx]⟩
    obtain ⟨n0, n1⟩ := rdn2 hrn3
    rw [← hHn] at n0 n1
    have hlo' : ∀ x, M' x ∨ G' x → p ≤ x := by
      rintro x (hx | hx)
      · rcases hGr.1 x hx with h | h
        · exact hlo x (.inl h)
        · omega
      · rcases hGr.2 x hx with h | h
        · exact hlo x (.inr h)
        · omega
    have hHp : H.size < p := by rw [← hpe]; exact hnlt1
    clear hel hsl hkR hGr hKp hHn hR hT hT3 hlo hMlt hE1 hE2 hE3 hrn hrn1 hrn2 hrn3 hv
    -- the key's hold; who holds it
    refine w_reg fun K hK => ?_
    simp (disch := omega) only [↓wD, wU, Nat.reduceBEq, reduceCtorEq, Int.reduceEq, Int.reduceLT, Int.reduceLE, Int.reduceNeg, Value.cells, Value.oneCell', Nat.reduceAdd, Nat.reduceEqDiff, fillL, setL, Nat.reduceLeDiff, f1, f7]
    refine w_call (Of_cl key hT' hW.sorted hW.sm) ?_
    rintro _ H5 ⟨hE5, x, cs, Gx, rfl, hex, hGx, hx⟩
    have hex' := hex
    obtain ⟨xva, xvr, ecs, hxa, hxr, -⟩ := hex'
    obtain ⟨xa, xac, rfl, hxac, -⟩ := hxa.form
    obtain ⟨xr, xrc, rfl, hxrc, -⟩ := hxr.form
    rw [ecs]
    simp (disch := omega) only [↓wD, wU, Nat.reduceBEq, reduceCtorEq, Int.reduceEq, Int.reduceLT, Int.reduceLE, Int.reduceNeg, Value.cells, Value.oneCell', Nat.reduceAdd, Nat.reduceEqDiff, fillL, setL, Nat.reduceLeDiff, ]
    rw [← ecs]
    refine hK _ _ ?_
    clear hK K
    have hp1 := cell_lt hT'.c0
    have hE6 : Ext H5 (H5.push (.cells cs.toArray 35)) := (Ext.refl _).push _
    have hrx : rdn (H5.push (.cells cs.toArray 35)) H5.size 0 7 = some cs := by rw [rdn_new H5 cs 35 0 7 (by rw [ecs]; exact Nat.le_refl _), ecs]; rfl
    have hb11 : H5.size < (H5.push (.cells cs.toArray 35)).size := by simp
    generalize H5.push (.cells cs.toArray 35) = H6 at hE6 hrx hb11 ⊢
    have hHH : H.size < H'.size := by omega
    have hE56 := hE5.trans hE6
    rw [← hE56.cell _ _ hHH] at n0 n1
    refine w_reg fun K hK => ?_
    simp (disch := omega) only [↓wD, wU, Nat.reduceBEq, reduceCtorEq, Int.reduceEq, Int.reduceLT, Int.reduceLE, Int.reduceNeg, Value.cells, Value.oneCell', Nat.reduceAdd, Nat.reduceEqDiff, fillL, setL, Nat.reduceLeDiff, f1, f7, f5, n0, n1]
    have hE7 : Ext H6 (H6.push (.cells #[.string key] 9)) := (Ext.refl _).push _
    refine w_call (Busy_cl n (hT'.ext (hE56.trans hE7)) hW.sorted hW.sm (str1 hk 9)) ?_
    rintro _ H7 ⟨hE8, a, b, rfl, hb⟩
    simp (disch := omega) only [↓wD, wU, Nat.reduceBEq, reduceCtorEq, Int.reduceEq, Int.reduceLT, Int.reduceLE, Int.reduceNeg, Value.cells, Value.oneCell', Nat.reduceAdd, Nat.reduceEqDiff, fillL, setL, Nat.reduceLeDiff, ]
    refine hK _ _ ?_
    clear hK K
    have hE9 : Ext H7 (H7.push (.cells #[.int .i64 a.client, .int .i64 a.num] 24)) := (Ext.refl _).push _
    have hr13 : rdn (H7.push (.cells #[.int .i64 a.client, .int .i64 a.num] 24)) H7.size 0 2 = some [.int .i64 a.client, .int .i64 a.num] := rdn_new H7 [_, _] 24 0 2 (Nat.le_refl _)
    generalize H7.push (.cells #[.int .i64 a.client, .int .i64 a.num] 24) = H8 at hE9 hr13 ⊢
    have hE68 := (hE7.trans hE8).trans hE9
    have hE08 := hE56.trans hE68
    have hrx8 := rdn_ext hE68 hrx
    have hHH6 : H.size < H6.size := by have := hE56.size; omega
    rw [← hE68.cell _ _ hHH6] at n0 n1
    obtain ⟨a0, a1⟩ := rdn2 hr13
    obtain ⟨x0, x1, x2, x3, x4, x5, x6⟩ := rdn7 (ecs ▸ hrx8)
    simp only [Nat.zero_add] at x0 x1 x2 x3 x4 x5 x6 a1
    have hT8 := hT'.ext hE08
    refine w_seq ?_
    refine w_cut (fun g H9 => H9 = H8 ∧ g 121 = .bool false ∧ g 12 = .bool (hasK L key) ∧ g 7 = .pointer (some ⟨p, 0, none⟩) ∧ g 1 = .string key ∧ g 8 = .slice aa L.length ac ∧ g 11 = .pointer (some ⟨H5.size, 0, none⟩)) ?_ ?_
    · by_cases hh : hasK L key = true
      · rw [hh] at hx f9 ⊢
        simp only [if_true] at hx f9
        obtain ⟨hxL, rfl⟩ := hx
        rcases hb with ⟨rfl, y, hy, hyk, hne, rfl⟩ | ⟨rfl, -, hall⟩
        · obtain rfl := sorted_unique hW.sorted hy hxL hyk
          have hnn := nm_ne hne
          refine w_reg1 fun K hK => ?_
          simp (disch := omega) only [↓wD, wU, Nat.reduceBEq, reduceCtorEq, Int.reduceEq, Int.reduceLT, Int.reduceLE, Int.reduceNeg, Value.cells, Value.oneCell', Nat.reduceAdd, Nat.reduceEqDiff, fillL, setL, Nat.reduceLeDiff, f1, f5, f7, f8, f9, hh, n0, n1, a0, a1, x1, x2, leavesEq, leafEq, hnn, nm_self, cast1, Bool.decide_eq_true]
          refine w_call (Many_cl hT8) ?_
          rintro _ H8 ⟨rfl, rfl⟩
          simp (disch := omega) only [↓wD, wU, Nat.reduceBEq, reduceCtorEq, Int.reduceEq, Int.reduceLT, Int.reduceLE, Int.reduceNeg, Value.cells, Value.oneCell', Nat.reduceAdd, Nat.reduceEqDiff, fillL, setL, Nat.reduceLeDiff, f1, f5, f7, f8, f9, cast1]
          refine hK _ _ ?_
          repeat (first | with_reducible refine q_n ?_ | with_reducible refine q_e ?_ | with_reducible refine q_r ?_ | with_reducible refine bq_n ?_ | with_reducible refine bq_e ?_ | with_reducible refine bq_r ?_ | with_reducible refine bq_o rfl ?_)
          exact ⟨rfl, (by simp only [ev_tmp, ev_const, upd_apply, Nat.reduceBEq, cond_true, cond_false, ]), (by simp only [ev_tmp, ev_const, upd_apply, Nat.reduceBEq, cond_true, cond_false, ]), (by simp only [ev_tmp, ev_const, upd_apply, Nat.reduceBEq, cond_true, cond_false, f7]), (by simp only [ev_tmp, ev_const, upd_apply, Nat.reduceBEq, cond_true, cond_false, f1]), (by simp only [ev_tmp, ev_const, upd_apply, Nat.reduceBEq, cond_true, cond_false, f8]), (by simp only [ev_tmp, ev_const, upd_apply, Nat.reduceBEq, cond_true, cond_false, ])⟩
        · have hne := hall x hxL rfl
          have hnn : (decide (x.name.client = n.client) && decide (x.name.num = n.num)) = true := by rw [hne]; exact nm_self
          refine w_reg1 fun K hK => ?_
          simp (disch := omega) only [↓wD, wU, Nat.reduceBEq, reduceCtorEq, Int.reduceEq, Int.reduceLT, Int.reduceLE, Int.reduceNeg, Value.cells, Value.oneCell', Nat.reduceAdd, Nat.reduceEqDiff, fillL, setL, Nat.reduceLeDiff, f1, f5, f7, f8, f9, hh, n0, n1, a0, a1, x1, x2, leavesEq, leafEq, hnn, nm_self, cast1, Bool.decide_eq_true]
          refine w_call (Many_cl hT8) ?_
          rintro _ H8 ⟨rfl, rfl⟩
          simp (disch := omega) only [↓wD, wU, Nat.reduceBEq, reduceCtorEq, Int.reduceEq, Int.reduceLT, Int.reduceLE, Int.reduceNeg, Value.cells, Value.oneCell', Nat.reduceAdd, Nat.reduceEqDiff, fillL, setL, Nat.reduceLeDiff, f1, f5, f7, f8, f9, cast1]
          refine hK _ _ ?_
          repeat (first | with_reducible refine q_n ?_ | with_reducible refine q_e ?_ | with_reducible refine q_r ?_ | with_reducible refine bq_n ?_ | with_reducible refine bq_e ?_ | with_reducible refine bq_r ?_ | with_reducible refine bq_o rfl ?_)
          exact ⟨rfl, (by simp only [ev_tmp, ev_const, upd_apply, Nat.reduceBEq, cond_true, cond_false, ]), (by simp only [ev_tmp, ev_const, upd_apply, Nat.reduceBEq, cond_true, cond_false, ]), (by simp only [ev_tmp, ev_const, upd_apply, Nat.reduceBEq, cond_true, cond_false, f7]), (by simp only [ev_tmp, ev_const, upd_apply, Nat.reduceBEq, cond_true, cond_false, f1]), (by simp only [ev_tmp, ev_const, upd_apply, Nat.reduceBEq, cond_true, cond_false, f8]), (by simp only [ev_tmp, ev_const, upd_apply, Nat.reduceBEq, cond_true, cond_false, ])⟩
      · have hh : hasK L key = false := by simpa using hh
        rw [hh] at hx f9 ⊢
        simp only [Bool.false_eq_true, if_false] at hx f9
        have hb0 : b = false := by
          rcases hb with ⟨_, y, hy, hyk, _⟩ | ⟨h, _⟩
          · have := hasK_iff.2 ⟨y, hy, hyk⟩
            rw [hh] at this; cases this
          · exact h
        subst hb0
        refine w_reg1 fun K hK => ?_
        simp (disch := omega) only [↓wD, wU, Nat.reduceBEq, reduceCtorEq, Int.reduceEq, Int.reduceLT, Int.reduceLE, Int.reduceNeg, Value.cells, Value.oneCell', Nat.reduceAdd, Nat.reduceEqDiff, fillL, setL, Nat.reduceLeDiff, f1, f5, f7, f8, f9, hh, n0, n1, a0, a1, x1, x2, cast0, Bool.decide_eq_true]
        refine w_call (Many_cl hT8) ?_
        rintro _ H8 ⟨rfl, rfl⟩
        simp (disch := omega) only [↓wD, wU, Nat.reduceBEq, reduceCtorEq, Int.reduceEq, Int.reduceLT, Int.reduceLE, Int.reduceNeg, Value.cells, Value.oneCell', Nat.reduceAdd, Nat.reduceEqDiff, fillL, setL, Nat.reduceLeDiff, f1, f5, f7, f8, f9, cast0]
        refine hK _ _ ?_
        repeat (first | with_reducible refine q_n ?_ | with_reducible refine q_e ?_ | with_reducible refine q_r ?_ | with_reducible refine bq_n ?_ | with_reducible refine bq_e ?_ | with_reducible refine bq_r ?_ | with_reducible refine bq_o rfl ?_)
        exact ⟨rfl, (by simp only [ev_tmp, ev_const, upd_apply, Nat.reduceBEq, cond_true, cond_false, ]), (by simp only [ev_tmp, ev_const, upd_apply, Nat.reduceBEq, cond_true, cond_false, ]), (by simp only [ev_tmp, ev_const, upd_apply, Nat.reduceBEq, cond_true, cond_false, f7]), (by simp only [ev_tmp, ev_const, upd_apply, Nat.reduceBEq, cond_true, cond_false, f1]), (by simp only [ev_tmp, ev_const, upd_apply, Nat.reduceBEq, cond_true, cond_false, f8]), (by simp only [ev_tmp, ev_const, upd_apply, Nat.reduceBEq, cond_true, cond_false, ])⟩
    clear hb f1 f5 f7 f8 f9 f10 a0 a1 n0 n1 hr13
    clear f
    rintro f H8 ⟨rfl, f121, f12, f7, f1, f8, f11⟩
    refine w_false (by simp only [ev_tmp, ev_const, upd_apply, Nat.reduceBEq, cond_true, cond_false, Bool.not_true, Bool.not_false, f121]) ?_
    refine w_skip ?_
    repeat (first | with_reducible refine q_n ?_ | with_reducible refine q_e ?_ | with_reducible refine q_r ?_ | with_reducible refine bq_n ?_ | with_reducible refine bq_e ?_ | with_reducible refine bq_r ?_ | with_reducible refine bq_o rfl ?_)
    refine w_seq (w_seq ?_)
    refine w_reg fun K hK => ?_
    simp (disch := omega) only [↓wD, wU, Nat.reduceBEq, reduceCtorEq, Int.reduceEq, Int.reduceLT, Int.reduceLE, Int.reduceNeg, Value.cells, Value.oneCell', Nat.reduceAdd, Nat.reduceEqDiff, fillL, setL, Nat.reduceLeDiff, f12]
    refine hK _ _ ?_
    clear hK K
    by_cases hh : hasK L key = true
    · rw [hh] at hx f12
      simp only [if_true] at hx
      obtain ⟨hxL, rfl⟩ := hx
      refine w_false (by simp only [ev_tmp, ev_const, upd_apply, Nat.reduceBEq, cond_true, cond_false, Bool.not_true, Bool.not_false, hh]) ?_
      refine w_skip ?_
      repeat (first | with_reducible refine q_n ?_ | with_reducible refine q_e ?_ | with_reducible refine q_r ?_ | with_reducible refine bq_n ?_ | with_reducible refine bq_e ?_ | with_reducible refine bq_r ?_ | with_reducible refine bq_o rfl ?_)
      have hdl : ∀ y, M' y → y < H8.size := fun y hy => hT8.lt y (.inl hy)
      have hp8 : p < H8.size := cell_lt hT8.c0
      have hrt := (right_reName (hW.right x hxL))
      have hmod : x.name.client.tmod 8 = x.name.client % 8 := Int.tmod_eq_emod_of_nonneg (by omega)
      have hb8 : H5.size < H8.size := cell_lt x0
      refine w_reg fun K hK => ?_
      simp (disch := omega) only [↓wD, wU, Nat.reduceBEq, reduceCtorEq, Int.reduceEq, Int.reduceLT, Int.reduceLE, Int.reduceNeg, Value.cells, Value.oneCell', Nat.reduceAdd, Nat.reduceEqDiff, fillL, setL, Nat.reduceLeDiff, f11, x0, x1, x2, x3, x4, x5, x6]
      refine hK _ _ ?_
      clear hK K
      refine w_reg fun K hK => ?_
      simp (disch := omega) only [↓wD, wU, Nat.reduceBEq, reduceCtorEq, Int.reduceEq, Int.reduceLT, Int.reduceLE, Int.reduceNeg, Value.cells, Value.oneCell', Nat.reduceAdd, Nat.reduceEqDiff, fillL, setL, Nat.reduceLeDiff, f11, x0, x1, hmod]
      refine hK _ _ ?_
      clear hK K
      obtain ⟨cs', ecs'⟩ : ∃ c : List Value, c = [.string x.key, .int .i64 (1 + x.name.client % 8), .int .i64 1, .slice xa x.acts.length xac, .slice xr x.reads.length xrc, .bool x.put, .string x.value] := ⟨_, rfl⟩
      rw [← ecs']
      have hE10 : Ext H8 (H8.push (.cells cs'.toArray 35)) := (Ext.refl _).push _
      have hr15 : rdn (H8.push (.cells cs'.toArray 35)) H8.size 0 7 = some cs' := by rw [rdn_new H8 cs' 35 0 7 (by rw [ecs']; exact Nat.le_refl _), ecs']; rfl
      have hb15 : H8.size < (H8.push (.cells cs'.toArray 35)).size := by simp
      generalize H8.push (.cells cs'.toArray 35) = H10 at hE10 hr15 hb15 ⊢
      have hE58 := hE6.trans hE68
      have hr11 := rdn_ext (hE68.trans hE10) hrx
      have hT10 := hT8.ext hE10
      have hE11 : Ext H10 (H10.push (.cells #[.string x.key] 9)) := (Ext.refl _).push _
      have hs56 := hE5.size
      have hMp : ∀ y, M' y → y < H'.size := fun y hy => hT'.lt y (.inl hy)
      refine w_reg fun K hK => ?_
      simp (disch := omega) only [↓wD, wU, Nat.reduceBEq, reduceCtorEq, Int.reduceEq, Int.reduceLT, Int.reduceLE, Int.reduceNeg, Value.cells, Value.oneCell', Nat.reduceAdd, Nat.reduceEqDiff, fillL, setL, Nat.reduceLeDiff, f7, f1]
      refine w_call (Free_cl (hT10.ext hE11) hW.sm (str1 hk 9) (fun x hx hm => by have := hT10.lt x (.inl hm); omega)) ?_
      rintro _ H12 ⟨⟨Mf, Gf, hfd, hfr, hrow⟩, hkp, v'', hT12⟩
      rename_i vf
      rw [fkey_one hW.sorted hxL rfl] at hrow
      obtain ⟨fa, fc, rfl, -, -, hfel⟩ := SlP.open (hrow.slp (by unfold big; simp))
      obtain ⟨bf, bo, rfl, hbf, csf, hcsf, hef⟩ := hfel 0 (by simp)
      have hfb := hfr bf hbf
      simp only [List.getElem_cons_zero, List.length_cons, List.length_nil, Nat.zero_add] at hef ⊢
      simp (disch := omega) only [↓wD, wU, Nat.reduceBEq, reduceCtorEq, Int.reduceEq, Int.reduceLT, Int.reduceLE, Int.reduceNeg, Value.cells, Value.oneCell', Nat.reduceAdd, Nat.reduceEqDiff, fillL, setL, Nat.reduceLeDiff, ]
      refine hK _ _ ?_
      clear hK K
      have hs11 := hE11.size
      have hr11' := rdn_block (hkp.2 H5.size (by omega) ⟨fun hm => by have := hMp _ hm; omega, by omega⟩) (rdn_ext hE11 hr11)
      have hr15' := rdn_block (hkp.2 H8.size (by omega) ⟨fun hm => by have := hMp _ hm; omega, by omega⟩) (rdn_ext hE11 hr15)
      have hef' := hef
      obtain ⟨yva, yvr, ecsf, -⟩ := hef'
      obtain ⟨y0, y1, y2, y3, y4, y5, y6⟩ := rdn7 (ecsf ▸ hcsf)
      obtain ⟨z0, z1, z2, z3, z4, z5, z6⟩ := rdn7 (ecs ▸ hr11')
      simp only [Nat.zero_add, Nat.add_zero, Nat.zero_mul] at y0 y1 y2 y3 y4 y5 y6 z0 z1 z2 z3 z4 z5 z6
      have hkG : ∀ y, Gx y → y < H5.size → H12[y]? = H5[y]? := fun y hy hy' => by
        have := hGx y hy
        rw [hkp.2 y (by omega) ⟨fun hm => by have := hMp _ hm; omega, by omega⟩, hE11.2 y (by omega), hE10.2 y (by omega), hE58.2 y hy']
      have hxs : ElHd Gx H12 cs x := hex.mono (fun _ h => h) hkG
      have hno := right_reName (hW.right x hxL)
      have hxs' : ElHd Gx H12 cs' (reName x) := by
        obtain ⟨_, _, _, -, -, h1, h2, h3⟩ := hxs
        refine ⟨_, _, ?_, hxa.mono (fun _ h => h) hkG fun _ _ _ h => h, hxr.mono (fun _ h => h) hkG fun _ _ _ h => h, ⟨?_, i64_1⟩, h2, h3⟩
        · rw [ecs']; simp only [reName, hmod]
        · simp only [reName, hmod]; unfold I64; omega
      refine w_lin (fun y => y = bf ∨ y = H5.size ∨ y = H8.size) fun K hK => ?_
      simp (disch := omega) only [↓l_nil, ↓l_f, ↓l_t, ↓o_s, ↓o_e, ↓o_g, ↓o_ge, ↓k_ld, ↓k_ldn, isemS, ↓wD, wU, Nat.reduceBEq, reduceCtorEq, Int.reduceEq, Int.reduceLT, Int.reduceLE, Int.reduceNeg, Value.cells, Value.oneCell', Nat.reduceAdd, Nat.reduceEqDiff, fillL, setL, Nat.reduceLeDiff, f11, y0, y1, y2, y3, y4, y5, y6, z0, z1, z2, z3, z4, z5, z6, true_or, or_true, Int.reduceToNat, cast1]
      rw [← ecsf, ← ecs]
      refine w_call (SameHold_cl hef hxs) ?_
      rintro _ H13 ⟨rfl, hE13⟩
      obtain ⟨w0, w1, w2, w3, w4, w5, w6⟩ := rdn7 (ecs' ▸ rdn_ext hE13 hr15')
      simp only [Nat.zero_add] at w0 w1 w2 w3 w4 w5 w6
      simp (disch := omega) only [↓l_nil, ↓l_f, ↓l_t, ↓o_s, ↓o_e, ↓o_g, ↓o_ge, ↓k_ld, ↓k_ldn, isemS, ↓wD, wU, Nat.reduceBEq, reduceCtorEq, Int.reduceEq, Int.reduceLT, Int.reduceLE, Int.reduceNeg, Value.cells, Value.oneCell', Nat.reduceAdd, Nat.reduceEqDiff, fillL, setL, Nat.reduceLeDiff, w0, w1, w2, w3, w4, w5, w6, f7, true_or, or_true]
      rw [← ecs']
      have hE14 : Ext H13 (H13.push (.cells cs'.toArray 35)) := (Ext.refl _).push _
      refine ⟨hE14.on _, ?_⟩
      have hs14 := hE14.size
      have hs10 := hE10.size
      have hs12' := hkp.1
      have hs13 := hE13.size
      have hbfM : ∀ y, H'.size ≤ y → ¬ M' y ∧ y ≠ p := fun y hy => ⟨fun hm => by have := hMp y hm; omega, by omega⟩
      have put := Put_cl (hT12.ext (hE13.trans hE14)) (hW.filter _) ((hxs'.ext hE13).sl1 35) (fun x hx => hbfM x (by
        rcases hx with hx | hx
        · exact (hGx x hx).1
        · omega))
      rw [put_free hW hxL] at put
      refine w_call (put) ?_
      rintro _ H15 ⟨rfl, hk5, L5, M5, G5, v5, hW5, hT5, hG5, hin, -⟩
      have hL5 : L5.length = L.length := by
        have h1 := (hin rfl).2
        have h2 := fkey_rest (key := x.key) hW.sorted
        rw [hh, if_pos rfl] at h2
        simp only [List.length_cons, List.length_nil] at h1
        omega
      simp (disch := omega) only [↓l_nil, ↓l_f, ↓l_t, ↓o_s, ↓o_e, ↓o_g, ↓o_ge, ↓k_ld, ↓k_ldn, isemS, ↓wD, wU, Nat.reduceBEq, reduceCtorEq, Int.reduceEq, Int.reduceLT, Int.reduceLE, Int.reduceNeg, Value.cells, Value.oneCell', Nat.reduceAdd, Nat.reduceEqDiff, fillL, setL, Nat.reduceLeDiff, f7, f8]
      refine ⟨⟨hk5.1, fun y hy hyS => hk5.2 y hy (hbfM y (by omega))⟩, ?_⟩
      refine w_call (Many_cl hT5) ?_
      rintro _ H15 ⟨rfl, rfl⟩
      simp (disch := omega) only [↓l_nil, ↓l_f, ↓l_t, ↓o_s, ↓o_e, ↓o_g, ↓o_ge, ↓k_ld, ↓k_ldn, isemS, ↓wD, wU, Nat.reduceBEq, reduceCtorEq, Int.reduceEq, Int.reduceLT, Int.reduceLE, Int.reduceNeg, Value.cells, Value.oneCell', Nat.reduceAdd, Nat.reduceEqDiff, fillL, setL, Nat.reduceLeDiff, hL5]
      refine ⟨KeepOn.refl _ _, ?_⟩
      refine hK _ _ ?_
      clear hK K
      refine w_ret ?_
      repeat (first | with_reducible refine q_n ?_ | with_reducible refine q_e ?_ | with_reducible refine q_r ?_ | with_reducible refine bq_n ?_ | with_reducible refine bq_e ?_ | with_reducible refine bq_r ?_ | with_reducible refine bq_o rfl ?_)
      refine ret1 (by (try simp only [ev_tmp, ev_const, upd_apply, Nat.reduceBEq, cond_true, cond_false, ]); rfl) ?_
      have hlow : ∀ b, b < H.size → ¬ M' b ∧ b ≠ p := fun b hb => ⟨fun hm => by have := hlo' b (.inl hm); omega, by omega⟩
      exact ⟨rfl, hk5.low ((hkp.low (((hEH.trans hE08).trans hE10).trans hE11) hlow).trans (hE13.trans hE14)) hlow⟩
    · have hh : hasK L key = false := by simpa using hh
      refine w_true (by simp only [ev_tmp, ev_const, upd_apply, Nat.reduceBEq, cond_true, cond_false, Bool.not_true, Bool.not_false, hh]) ?_
      have hE10 : Ext H8 (H8.push (.cells #[.string key] 9)) := (Ext.refl _).push _
      have hfl := fkey_len (key := key) hW.sorted
      rw [hh] at hfl
      simp only [Bool.false_eq_true, if_false] at hfl
      refine w_reg fun K hK => ?_
      simp (disch := omega) only [↓wD, wU, Nat.reduceBEq, reduceCtorEq, Int.reduceEq, Int.reduceLT, Int.reduceLE, Int.reduceNeg, Value.cells, Value.oneCell', Nat.reduceAdd, Nat.reduceEqDiff, fillL, setL, Nat.reduceLeDiff, f7, f1]
      refine w_call (Free_cl (hT8.ext hE10) hW.sm (str1 hk 9) (fun x hx hm => by have := hT8.lt x (.inl hm); omega)) ?_
      rintro _ H10 ⟨⟨Mf, Gf, -, -, hrow⟩, hkp, v'', hT10⟩
      obtain ⟨fa, fc, rfl, -⟩ := hrow.form
      simp (disch := omega) only [↓wD, wU, Nat.reduceBEq, reduceCtorEq, Int.reduceEq, Int.reduceLT, Int.reduceLE, Int.reduceNeg, Value.cells, Value.oneCell', Nat.reduceAdd, Nat.reduceEqDiff, fillL, setL, Nat.reduceLeDiff, hfl, cast0]
      refine hK _ _ ?_
      clear hK K
      refine w_ret ?_
      repeat (first | with_reducible refine q_n ?_ | with_reducible refine q_e ?_ | with_reducible refine q_r ?_ | with_reducible refine bq_n ?_ | with_reducible refine bq_e ?_ | with_reducible refine bq_r ?_ | with_reducible refine bq_o rfl ?_)
      refine ret1 (by (try simp only [ev_tmp, ev_const, upd_apply, Nat.reduceBEq, cond_true, cond_false, ]); rfl) ?_
      exact ⟨rfl, hkp.low (hEH.trans (hE08.trans hE10)) fun b hb => ⟨fun hm => by have := hlo' b (.inl hm); omega, by omega⟩⟩
end Go.WK
/-
  No table, and one that nobody made.
-/
namespace Go.WK
open Go Go.Proofs

def NoTab (H : Hp) (v : Value) : Prop := v = .pointer none ∨ ∃ b, v = .pointer (some ⟨b, 0, none⟩) ∧ cell H b (0 + 1) = some (.bool false)
theorem NoTab.ext {H H' : Hp} {v : Value} (h : NoTab H v) (hE : Ext H H') : NoTab H' v := by
  rcases h with h | ⟨b, h, hc⟩
  · exact .inl h
  · exact .inr ⟨b, h, (hE.cell b _ (cell_lt hc)).trans hc⟩
theorem z_pp : nilV .ptr (.pointer none) (.pointer none) = some true := rfl
theorem thereNo_cl {H : Hp} {v : Value} (h : NoTab H v) : Cl Tryz.prog 48 [v] H fun r H' => r = .bool false ∧ H' = H := by
  refine cl_of mixed c_holds_Holds_there (Nat.le_of_ble_eq_true rfl) ?_
  simp only [fwp, ir_holds_Holds_there, argF, Nat.reduceAdd]
  refine w_reg fun K hK => ?_
  simp (disch := omega) only [↓wD, wU, Nat.reduceBEq, reduceCtorEq, Int.reduceEq, Int.reduceLT, Int.reduceLE, Int.reduceNeg, Value.cells, Value.oneCell', Nat.reduceAdd, Nat.reduceEqDiff, fillL, setL, Nat.reduceLeDiff, ]
  refine hK _ _ ?_
  clear hK K
  refine w_reg fun K hK => ?_
  rcases h with rfl | ⟨b, rfl, hc⟩
  · simp (disch := omega) only [↓wD, wU, Nat.reduceBEq, reduceCtorEq, Int.reduceEq, Int.reduceLT, Int.reduceLE, Int.reduceNeg, Value.cells, Value.oneCell', Nat.reduceAdd, Nat.reduceEqDiff, fillL, setL, Nat.reduceLeDiff, ]
    refine hK _ _ ?_
    clear hK K
    refine w_ret ?_
    repeat (first | with_reducible refine q_n ?_ | with_reducible refine q_e ?_ | with_reducible refine q_r ?_ | with_reducible refine bq_n ?_ | with_reducible refine bq_e ?_ | with_reducible refine bq_r ?_ | with_reducible refine bq_o rfl ?_)
    refine ret1 (by (try simp only [ev_tmp, ev_const, upd_apply, Nat.reduceBEq, cond_true, cond_false, ]); rfl) ?_
    exact ⟨rfl, rfl⟩
  · simp (disch := omega) only [↓wD, wU, Nat.reduceBEq, reduceCtorEq, Int.reduceEq, Int.reduceLT, Int.reduceLE, Int.reduceNeg, Value.cells, Value.oneCell', Nat.reduceAdd, Nat.reduceEqDiff, fillL, setL, Nat.reduceLeDiff, hc]
    refine hK _ _ ?_
    clear hK K
    refine w_ret ?_
    repeat (first | with_reducible refine q_n ?_ | with_reducible refine q_e ?_ | with_reducible refine q_r ?_ | with_reducible refine bq_n ?_ | with_reducible refine bq_e ?_ | with_reducible refine bq_r ?_ | with_reducible refine bq_o rfl ?_)
    refine ret1 (by (try simp only [ev_tmp, ev_const, upd_apply, Nat.reduceBEq, cond_true, cond_false, ]); rfl) ?_
    exact ⟨rfl, rfl⟩
theorem OfNo_cl {H : Hp} {v : Value} (key : ByteArray) (h : NoTab H v) : Cl Tryz.prog 14 [v, .string key] H fun r H' => Ext H H' ∧ r = .tuple #[.agg zHold.toArray, .bool false] := by
  refine cl_of mixed c_holds_Holds_Of (Nat.le_of_ble_eq_true rfl) ?_
  simp only [fwp, ir_holds_Holds_Of, argF, Nat.reduceAdd]
  refine w_reg fun K hK => ?_
  simp (disch := omega) only [↓wD, wU, Nat.reduceBEq, reduceCtorEq, Int.reduceEq, Int.reduceLT, Int.reduceLE, Int.reduceNeg, Value.cells, Value.oneCell', Nat.reduceAdd, Nat.reduceEqDiff, fillL, setL, Nat.reduceLeDiff, ]
  refine hK _ _ ?_
  clear hK K
  refine w_seq (w_seq ?_)
  refine w_reg fun K hK => ?_
  simp (disch := omega) only [↓wD, wU, Nat.reduceBEq, reduceCtorEq, Int.reduceEq, Int.reduceLT, Int.reduceLE, Int.reduceNeg, Value.cells, Value.oneCell', Nat.reduceAdd, Nat.reduceEqDiff, fillL, setL, Nat.reduceLeDiff, ]
  refine w_call (thereNo_cl (h.ext ((Ext.refl _).push _))) ?_
  rintro _ H1 ⟨rfl, rfl⟩
  simp (disch := omega) only [↓wD, wU, Nat.reduceBEq, reduceCtorEq, Int.reduceEq, Int.reduceLT, Int.reduceLE, Int.reduceNeg, Value.cells, Value.oneCell', Nat.reduceAdd, Nat.reduceEqDiff, fillL, setL, Nat.reduceLeDiff, ]
  refine hK _ _ ?_
  clear hK K
  refine w_true (by simp only [ev_tmp, ev_const, upd_apply, Nat.reduceBEq, cond_true, cond_false, Bool.not_true, Bool.not_false, ]) ?_
  refine w_reg fun K hK => ?_
  simp (disch := omega) only [↓wD, wU, Nat.reduceBEq, reduceCtorEq, Int.reduceEq, Int.reduceLT, Int.reduceLE, Int.reduceNeg, Value.cells, Value.oneCell', Nat.reduceAdd, Nat.reduceEqDiff, fillL, setL, Nat.reduceLeDiff, ]
  refine hK _ _ ?_
  clear hK K
  refine w_ret ?_
  repeat (first | with_reducible refine q_n ?_ | with_reducible refine q_e ?_ | with_reducible refine q_r ?_ | with_reducible refine bq_n ?_ | with_reducible refine bq_e ?_ | with_reducible refine bq_r ?_ | with_reducible refine bq_o rfl ?_)
  refine retG (by (simp (disch := omega) only [resV, rvsV, rvV, oneOr, ↓wD, wU, Nat.reduceBEq, reduceCtorEq, Int.reduceEq, Int.reduceLT, Int.reduceLE, Int.reduceNeg, Value.cells, Value.oneCell', Nat.reduceAdd, Nat.reduceEqDiff, fillL, setL, Nat.reduceLeDiff, ]); rfl) ?_
  exact ⟨(Ext.refl _).push _, rfl⟩
theorem ManyNo_cl {H : Hp} {v : Value} (h : NoTab H v) : Cl Tryz.prog 16 [v] H fun r H' => r = .int .i64 0 ∧ H' = H := by
  refine cl_of mixed c_holds_Holds_Many (Nat.le_of_ble_eq_true rfl) ?_
  simp only [fwp, ir_holds_Holds_Many, argF, Nat.reduceAdd]
  refine w_reg fun K hK => ?_
  simp (disch := omega) only [↓wD, wU, Nat.reduceBEq, reduceCtorEq, Int.reduceEq, Int.reduceLT, Int.reduceLE, Int.reduceNeg, Value.cells, Value.oneCell', Nat.reduceAdd, Nat.reduceEqDiff, fillL, setL, Nat.reduceLeDiff, ]
  refine hK _ _ ?_
  clear hK K
  refine w_seq (w_seq ?_)
  refine w_reg fun K hK => ?_
  simp (disch := omega) only [↓wD, wU, Nat.reduceBEq, reduceCtorEq, Int.reduceEq, Int.reduceLT, Int.reduceLE, Int.reduceNeg, Value.cells, Value.oneCell', Nat.reduceAdd, Nat.reduceEqDiff, fillL, setL, Nat.reduceLeDiff, ]
  refine w_call (thereNo_cl h) ?_
  rintro _ H1 ⟨rfl, rfl⟩
  simp (disch := omega) only [↓wD, wU, Nat.reduceBEq, reduceCtorEq, Int.reduceEq, Int.reduceLT, Int.reduceLE, Int.reduceNeg, Value.cells, Value.oneCell', Nat.reduceAdd, Nat.reduceEqDiff, fillL, setL, Nat.reduceLeDiff, ]
  refine hK _ _ ?_
  clear hK K
  refine w_true (by simp only [ev_tmp, ev_const, upd_apply, Nat.reduceBEq, cond_true, cond_false, Bool.not_true, Bool.not_false, ]) ?_
  refine w_reg fun K hK => ?_
  simp (disch := omega) only [↓wD, wU, Nat.reduceBEq, reduceCtorEq, Int.reduceEq, Int.reduceLT, Int.reduceLE, Int.reduceNeg, Value.cells, Value.oneCell', Nat.reduceAdd, Nat.reduceEqDiff, fillL, setL, Nat.reduceLeDiff, ]
  refine hK _ _ ?_
  clear hK K
  refine w_ret ?_
  repeat (first | with_reducible refine q_n ?_ | with_reducible refine q_e ?_ | with_reducible refine q_r ?_ | with_reducible refine bq_n ?_ | with_reducible refine bq_e ?_ | with_reducible refine bq_r ?_ | with_reducible refine bq_o rfl ?_)
  refine ret1 (by (try simp only [ev_tmp, ev_const, upd_apply, Nat.reduceBEq, cond_true, cond_false, ]); rfl) ?_
  exact ⟨rfl, rfl⟩
theorem CopyNo_cl {H : Hp} {v : Value} (h : NoTab H v) : Cl Tryz.prog 40 [v] H fun r H' => r = .pointer none ∧ H' = H := by
  refine cl_of mixed c_holds_Holds_Copy (Nat.le_of_ble_eq_true rfl) ?_
  simp only [fwp, ir_holds_Holds_Copy, argF, Nat.reduceAdd]
  refine w_reg fun K hK => ?_
  simp (disch := omega) only [↓wD, wU, Nat.reduceBEq, reduceCtorEq, Int.reduceEq, Int.reduceLT, Int.reduceLE, Int.reduceNeg, Value.cells, Value.oneCell', Nat.reduceAdd, Nat.reduceEqDiff, fillL, setL, Nat.reduceLeDiff, ]
  refine hK _ _ ?_
  clear hK K
  refine w_seq (w_seq ?_)
  refine w_reg fun K hK => ?_
  simp (disch := omega) only [↓wD, wU, Nat.reduceBEq, reduceCtorEq, Int.reduceEq, Int.reduceLT, Int.reduceLE, Int.reduceNeg, Value.cells, Value.oneCell', Nat.reduceAdd, Nat.reduceEqDiff, fillL, setL, Nat.reduceLeDiff, ]
  refine w_call (thereNo_cl h) ?_
  rintro _ H1 ⟨rfl, rfl⟩
  simp (disch := omega) only [↓wD, wU, Nat.reduceBEq, reduceCtorEq, Int.reduceEq, Int.reduceLT, Int.reduceLE, Int.reduceNeg, Value.cells, Value.oneCell', Nat.reduceAdd, Nat.reduceEqDiff, fillL, setL, Nat.reduceLeDiff, ]
  refine hK _ _ ?_
  clear hK K
  refine w_true (by simp only [ev_tmp, ev_const, upd_apply, Nat.reduceBEq, cond_true, cond_false, Bool.not_true, Bool.not_false, ]) ?_
  refine w_reg fun K hK => ?_
  simp (disch := omega) only [↓wD, wU, Nat.reduceBEq, reduceCtorEq, Int.reduceEq, Int.reduceLT, Int.reduceLE, Int.reduceNeg, Value.cells, Value.oneCell', Nat.reduceAdd, Nat.reduceEqDiff, fillL, setL, Nat.reduceLeDiff, ]
  refine hK _ _ ?_
  clear hK K
  refine w_ret ?_
  repeat (first | with_reducible refine q_n ?_ | with_reducible refine q_e ?_ | with_reducible refine q_r ?_ | with_reducible refine bq_n ?_ | with_reducible refine bq_e ?_ | with_reducible refine bq_r ?_ | with_reducible refine bq_o rfl ?_)
  refine ret1 (by (try simp only [ev_tmp, ev_const, upd_apply, Nat.reduceBEq, cond_true, cond_false, ]); rfl) ?_
  exact ⟨rfl, rfl⟩
theorem ByNo_cl {H : Hp} {v : Value} (a b : Int) (h : NoTab H v) : Cl Tryz.prog 44 [v, .agg #[.int .i64 a, .int .i64 b]] H fun r H' => r = .slice none 0 0 ∧ Ext H H' := by
  refine cl_of mixed c_holds_Holds_By (Nat.le_of_ble_eq_true rfl) ?_
  simp only [fwp, ir_holds_Holds_By, argF, Nat.reduceAdd]
  refine w_reg fun K hK => ?_
  simp (disch := omega) only [↓wD, wU, Nat.reduceBEq, reduceCtorEq, Int.reduceEq, Int.reduceLT, Int.reduceLE, Int.reduceNeg, Value.cells, Value.oneCell', Nat.reduceAdd, Nat.reduceEqDiff, fillL, setL, Nat.reduceLeDiff, ]
  refine hK _ _ ?_
  clear hK K
  refine w_seq (w_seq ?_)
  refine w_reg fun K hK => ?_
  simp (disch := omega) only [↓wD, wU, Nat.reduceBEq, reduceCtorEq, Int.reduceEq, Int.reduceLT, Int.reduceLE, Int.reduceNeg, Value.cells, Value.oneCell', Nat.reduceAdd, Nat.reduceEqDiff, fillL, setL, Nat.reduceLeDiff, ]
  refine w_call (thereNo_cl (h.ext ((Ext.refl _).push _))) ?_
  rintro _ H1 ⟨rfl, rfl⟩
  simp (disch := omega) only [↓wD, wU, Nat.reduceBEq, reduceCtorEq, Int.reduceEq, Int.reduceLT, Int.reduceLE, Int.reduceNeg, Value.cells, Value.oneCell', Nat.reduceAdd, Nat.reduceEqDiff, fillL, setL, Nat.reduceLeDiff, ]
  refine hK _ _ ?_
  clear hK K
  refine w_true (by simp only [ev_tmp, ev_const, upd_apply, Nat.reduceBEq, cond_true, cond_false, Bool.not_true, Bool.not_false, ]) ?_
  refine w_reg fun K hK => ?_
  simp (disch := omega) only [↓wD, wU, Nat.reduceBEq, reduceCtorEq, Int.reduceEq, Int.reduceLT, Int.reduceLE, Int.reduceNeg, Value.cells, Value.oneCell', Nat.reduceAdd, Nat.reduceEqDiff, fillL, setL, Nat.reduceLeDiff, ]
  refine hK _ _ ?_
  clear hK K
  refine w_ret ?_
  repeat (first | with_reducible refine q_n ?_ | with_reducible refine q_e ?_ | with_reducible refine q_r ?_ | with_reducible refine bq_n ?_ | with_reducible refine bq_e ?_ | with_reducible refine bq_r ?_ | with_reducible refine bq_o rfl ?_)
  refine ret1 (by (try simp only [ev_tmp, ev_const, upd_apply, Nat.reduceBEq, cond_true, cond_false, ]); rfl) ?_
  exact ⟨rfl, (Ext.refl _).push _⟩
theorem NamesNo_cl {H : Hp} {v : Value} (h : NoTab H v) : Cl Tryz.prog 45 [v] H fun r H' => r = .slice none 0 0 ∧ H' = H := by
  refine cl_of mixed c_holds_Holds_Names (Nat.le_of_ble_eq_true rfl) ?_
  simp only [fwp, ir_holds_Holds_Names, argF, Nat.reduceAdd]
  refine w_reg fun K hK => ?_
  simp (disch := omega) only [↓wD, wU, Nat.reduceBEq, reduceCtorEq, Int.reduceEq, Int.reduceLT, Int.reduceLE, Int.reduceNeg, Value.cells, Value.oneCell', Nat.reduceAdd, Nat.reduceEqDiff, fillL, setL, Nat.reduceLeDiff, ]
  refine hK _ _ ?_
  clear hK K
  refine w_seq (w_seq ?_)
  refine w_reg fun K hK => ?_
  simp (disch := omega) only [↓wD, wU, Nat.reduceBEq, reduceCtorEq, Int.reduceEq, Int.reduceLT, Int.reduceLE, Int.reduceNeg, Value.cells, Value.oneCell', Nat.reduceAdd, Nat.reduceEqDiff, fillL, setL, Nat.reduceLeDiff, ]
  refine w_call (thereNo_cl h) ?_
  rintro _ H1 ⟨rfl, rfl⟩
  simp (disch := omega) only [↓wD, wU, Nat.reduceBEq, reduceCtorEq, Int.reduceEq, Int.reduceLT, Int.reduceLE, Int.reduceNeg, Value.cells, Value.oneCell', Nat.reduceAdd, Nat.reduceEqDiff, fillL, setL, Nat.reduceLeDiff, ]
  refine hK _ _ ?_
  clear hK K
  refine w_true (by simp only [ev_tmp, ev_const, upd_apply, Nat.reduceBEq, cond_true, cond_false, Bool.not_true, Bool.not_false, ]) ?_
  refine w_reg fun K hK => ?_
  simp (disch := omega) only [↓wD, wU, Nat.reduceBEq, reduceCtorEq, Int.reduceEq, Int.reduceLT, Int.reduceLE, Int.reduceNeg, Value.cells, Value.oneCell', Nat.reduceAdd, Nat.reduceEqDiff, fillL, setL, Nat.reduceLeDiff, ]
  refine hK _ _ ?_
  clear hK K
  refine w_ret ?_
  repeat (first | with_reducible refine q_n ?_ | with_reducible refine q_e ?_ | with_reducible refine q_r ?_ | with_reducible refine bq_n ?_ | with_reducible refine bq_e ?_ | with_reducible refine bq_r ?_ | with_reducible refine bq_o rfl ?_)
  refine ret1 (by (try simp only [ev_tmp, ev_const, upd_apply, Nat.reduceBEq, cond_true, cond_false, ]); rfl) ?_
  exact ⟨rfl, rfl⟩
theorem FreeNo_cl {H : Hp} {v u : Value} (hu : u.oneCell' = true ∧ u.cells = #[u]) (h : NoTab H v) : Cl Tryz.prog 17 [v, u] H fun r H' => r = .slice none 0 0 ∧ Ext H H' := by
  refine cl_of mixed c_holds_Holds_Free (Nat.le_of_ble_eq_true rfl) ?_
  simp only [fwp, ir_holds_Holds_Free, argF, Nat.reduceAdd]
  refine w_reg fun K hK => ?_
  simp (disch := omega) only [↓wD, wU, Nat.reduceBEq, reduceCtorEq, Int.reduceEq, Int.reduceLT, Int.reduceLE, Int.reduceNeg, Value.cells, Value.oneCell', Nat.reduceAdd, Nat.reduceEqDiff, fillL, setL, Nat.reduceLeDiff, ]
  refine hK _ _ ?_
  clear hK K
  refine w_seq (w_seq ?_)
  refine w_reg fun K hK => ?_
  simp (disch := omega) only [↓wD, wU, Nat.reduceBEq, reduceCtorEq, Int.reduceEq, Int.reduceLT, Int.reduceLE, Int.reduceNeg, Value.cells, Value.oneCell', Nat.reduceAdd, Nat.reduceEqDiff, fillL, setL, Nat.reduceLeDiff, ]
  refine w_call (thereNo_cl (h.ext ((Ext.refl _).push _))) ?_
  rintro _ H1 ⟨rfl, rfl⟩
  simp (disch := omega) only [↓wD, wU, Nat.reduceBEq, reduceCtorEq, Int.reduceEq, Int.reduceLT, Int.reduceLE, Int.reduceNeg, Value.cells, Value.oneCell', Nat.reduceAdd, Nat.reduceEqDiff, fillL, setL, Nat.reduceLeDiff, ]
  refine hK _ _ ?_
  clear hK K
  refine w_true (by simp only [ev_tmp, ev_const, upd_apply, Nat.reduceBEq, cond_true, cond_false, Bool.not_true, Bool.not_false, ]) ?_
  refine w_reg fun K hK => ?_
  simp (disch := omega) only [↓wD, wU, Nat.reduceBEq, reduceCtorEq, Int.reduceEq, Int.reduceLT, Int.reduceLE, Int.reduceNeg, Value.cells, Value.oneCell', Nat.reduceAdd, Nat.reduceEqDiff, fillL, setL, Nat.reduceLeDiff, ]
  refine hK _ _ ?_
  clear hK K
  refine w_ret ?_
  repeat (first | with_reducible refine q_n ?_ | with_reducible refine q_e ?_ | with_reducible refine q_r ?_ | with_reducible refine bq_n ?_ | with_reducible refine bq_e ?_ | with_reducible refine bq_r ?_ | with_reducible refine bq_o rfl ?_)
  refine ret1 (by (try simp only [ev_tmp, ev_const, upd_apply, Nat.reduceBEq, cond_true, cond_false, ]); rfl) ?_
  exact ⟨rfl, (Ext.refl _).push _⟩
theorem InNo_cl {H : Hp} {v : Value} (a b : ByteArray) (h : NoTab H v) : Cl Tryz.prog 12 [v, .agg #[.string a, .string b]] H fun r H' => r = .slice none 0 0 ∧ Ext H H' := by
  refine cl_of mixed c_holds_Holds_In (Nat.le_of_ble_eq_true rfl) ?_
  simp only [fwp, ir_holds_Holds_In, argF, Nat.reduceAdd]
  refine w_reg fun K hK => ?_
  simp (disch := omega) only [↓wD, wU, Nat.reduceBEq, reduceCtorEq, Int.reduceEq, Int.reduceLT, Int.reduceLE, Int.reduceNeg, Value.cells, Value.oneCell', Nat.reduceAdd, Nat.reduceEqDiff, fillL, setL, Nat.reduceLeDiff, ]
  refine hK _ _ ?_
  clear hK K
  refine w_seq (w_seq ?_)
  refine w_reg fun K hK => ?_
  simp (disch := omega) only [↓wD, wU, Nat.reduceBEq, reduceCtorEq, Int.reduceEq, Int.reduceLT, Int.reduceLE, Int.reduceNeg, Value.cells, Value.oneCell', Nat.reduceAdd, Nat.reduceEqDiff, fillL, setL, Nat.reduceLeDiff, ]
  refine w_call (thereNo_cl (h.ext ((Ext.refl _).push _))) ?_
  rintro _ H1 ⟨rfl, rfl⟩
  simp (disch := omega) only [↓wD, wU, Nat.reduceBEq, reduceCtorEq, Int.reduceEq, Int.reduceLT, Int.reduceLE, Int.reduceNeg, Value.cells, Value.oneCell', Nat.reduceAdd, Nat.reduceEqDiff, fillL, setL, Nat.reduceLeDiff, ]
  refine hK _ _ ?_
  clear hK K
  refine w_true (by simp only [ev_tmp, ev_const, upd_apply, Nat.reduceBEq, cond_true, cond_false, Bool.not_true, Bool.not_false, ]) ?_
  refine w_reg fun K hK => ?_
  simp (disch := omega) only [↓wD, wU, Nat.reduceBEq, reduceCtorEq, Int.reduceEq, Int.reduceLT, Int.reduceLE, Int.reduceNeg, Value.cells, Value.oneCell', Nat.reduceAdd, Nat.reduceEqDiff, fillL, setL, Nat.reduceLeDiff, ]
  refine hK _ _ ?_
  clear hK K
  refine w_ret ?_
  repeat (first | with_reducible refine q_n ?_ | with_reducible refine q_e ?_ | with_reducible refine q_r ?_ | with_reducible refine bq_n ?_ | with_reducible refine bq_e ?_ | with_reducible refine bq_r ?_ | with_reducible refine bq_o rfl ?_)
  refine ret1 (by (try simp only [ev_tmp, ev_const, upd_apply, Nat.reduceBEq, cond_true, cond_false, ]); rfl) ?_
  exact ⟨rfl, (Ext.refl _).push _⟩
theorem TakeNo_cl {H : Hp} {v : Value} (a b : ByteArray) (h : NoTab H v) : Cl Tryz.prog 35 [v, .agg #[.string a, .string b]] H fun r H' => r = .slice none 0 0 ∧ Ext H H' := by
  refine cl_of mixed c_holds_Holds_Take (Nat.le_of_ble_eq_true rfl) ?_
  simp only [fwp, ir_holds_Holds_Take, argF, Nat.reduceAdd]
  refine w_reg fun K hK => ?_
  simp (disch := omega) only [↓wD, wU, Nat.reduceBEq, reduceCtorEq, Int.reduceEq, Int.reduceLT, Int.reduceLE, Int.reduceNeg, Value.cells, Value.oneCell', Nat.reduceAdd, Nat.reduceEqDiff, fillL, setL, Nat.reduceLeDiff, ]
  refine hK _ _ ?_
  clear hK K
  refine w_seq (w_seq ?_)
  refine w_reg fun K hK => ?_
  simp (disch := omega) only [↓wD, wU, Nat.reduceBEq, reduceCtorEq, Int.reduceEq, Int.reduceLT, Int.reduceLE, Int.reduceNeg, Value.cells, Value.oneCell', Nat.reduceAdd, Nat.reduceEqDiff, fillL, setL, Nat.reduceLeDiff, ]
  refine w_call (thereNo_cl (h.ext ((Ext.refl _).push _))) ?_
  rintro _ H1 ⟨rfl, rfl⟩
  simp (disch := omega) only [↓wD, wU, Nat.reduceBEq, reduceCtorEq, Int.reduceEq, Int.reduceLT, Int.reduceLE, Int.reduceNeg, Value.cells, Value.oneCell', Nat.reduceAdd, Nat.reduceEqDiff, fillL, setL, Nat.reduceLeDiff, ]
  refine hK _ _ ?_
  clear hK K
  refine w_true (by simp only [ev_tmp, ev_const, upd_apply, Nat.reduceBEq, cond_true, cond_false, Bool.not_true, Bool.not_false, ]) ?_
  refine w_reg fun K hK => ?_
  simp (disch := omega) only [↓wD, wU, Nat.reduceBEq, reduceCtorEq, Int.reduceEq, Int.reduceLT, Int.reduceLE, Int.reduceNeg, Value.cells, Value.oneCell', Nat.reduceAdd, Nat.reduceEqDiff, fillL, setL, Nat.reduceLeDiff, ]
  refine hK _ _ ?_
  clear hK K
  refine w_ret ?_
  repeat (first | with_reducible refine q_n ?_ | with_reducible refine q_e ?_ | with_reducible refine q_r ?_ | with_reducible refine bq_n ?_ | with_reducible refine bq_e ?_ | with_reducible refine bq_r ?_ | with_reducible refine bq_o rfl ?_)
  refine ret1 (by (try simp only [ev_tmp, ev_const, upd_apply, Nat.reduceBEq, cond_true, cond_false, ]); rfl) ?_
  exact ⟨rfl, (Ext.refl _).push _⟩
theorem PutNo_cl {H : Hp} {v u : Value} (h : NoTab H v) : Cl Tryz.prog 13 [v, u] H fun r H' => r = .int .i64 1 ∧ H' = H := by
  refine cl_of mixed c_holds_Holds_Put (Nat.le_of_ble_eq_true rfl) ?_
  simp only [fwp, ir_holds_Holds_Put, argF, Nat.reduceAdd]
  refine w_reg fun K hK => ?_
  simp (disch := omega) only [↓wD, wU, Nat.reduceBEq, reduceCtorEq, Int.reduceEq, Int.reduceLT, Int.reduceLE, Int.reduceNeg, Value.cells, Value.oneCell', Nat.reduceAdd, Nat.reduceEqDiff, fillL, setL, Nat.reduceLeDiff, ]
  refine hK _ _ ?_
  clear hK K
  refine w_seq (w_seq ?_)
  refine w_reg fun K hK => ?_
  simp (disch := omega) only [↓wD, wU, Nat.reduceBEq, reduceCtorEq, Int.reduceEq, Int.reduceLT, Int.reduceLE, Int.reduceNeg, Value.cells, Value.oneCell', Nat.reduceAdd, Nat.reduceEqDiff, fillL, setL, Nat.reduceLeDiff, ]
  refine w_call (thereNo_cl h) ?_
  rintro _ H1 ⟨rfl, rfl⟩
  simp (disch := omega) only [↓wD, wU, Nat.reduceBEq, reduceCtorEq, Int.reduceEq, Int.reduceLT, Int.reduceLE, Int.reduceNeg, Value.cells, Value.oneCell', Nat.reduceAdd, Nat.reduceEqDiff, fillL, setL, Nat.reduceLeDiff, ]
  refine hK _ _ ?_
  clear hK K
  refine w_true (by simp only [ev_tmp, ev_const, upd_apply, Nat.reduceBEq, cond_true, cond_false, Bool.not_true, Bool.not_false, ]) ?_
  refine w_reg fun K hK => ?_
  simp (disch := omega) only [↓wD, wU, Nat.reduceBEq, reduceCtorEq, Int.reduceEq, Int.reduceLT, Int.reduceLE, Int.reduceNeg, Value.cells, Value.oneCell', Nat.reduceAdd, Nat.reduceEqDiff, fillL, setL, Nat.reduceLeDiff, ]
  refine hK _ _ ?_
  clear hK K
  refine w_ret ?_
  repeat (first | with_reducible refine q_n ?_ | with_reducible refine q_e ?_ | with_reducible refine q_r ?_ | with_reducible refine bq_n ?_ | with_reducible refine bq_e ?_ | with_reducible refine bq_r ?_ | with_reducible refine bq_o rfl ?_)
  refine ret1 (by (try simp only [ev_tmp, ev_const, upd_apply, Nat.reduceBEq, cond_true, cond_false, ]); rfl) ?_
  exact ⟨rfl, rfl⟩
theorem BusyNo_cl {S : Nat → Prop} {H : Hp} {v vk : Value} {key : ByteArray} (a b : Int) (h : NoTab H v) (hk : StrSl S H vk [key]) :
    Cl Tryz.prog 15 [v, .agg #[.int .i64 a, .int .i64 b], vk] H fun r H' => Ext H H' ∧ r = .tuple #[.agg #[.int .i64 0, .int .i64 0], .bool false] := by
  refine cl_of mixed c_holds_Holds_Busy (Nat.le_of_ble_eq_true rfl) ?_
  simp only [fwp, ir_holds_Holds_Busy, argF, Nat.reduceAdd]
  obtain ⟨ka, kc, rfl, hkc, -, hkel⟩ := SlP.open hk
  obtain ⟨kb, ko, rfl, hkS, kcs, hkr, rfl, hsz⟩ := hkel 0 (by simp)
  have hkx := rdn1 hkr
  simp only [Nat.zero_mul, Nat.add_zero, List.getElem_cons_zero] at hkx hsz
  simp only [List.length_cons, List.length_nil, Nat.zero_add] at hkc ⊢
  have hkb := cell_lt hkx
  refine w_reg fun K hK => ?_
  simp (disch := omega) only [↓wD, wU, Nat.reduceBEq, reduceCtorEq, Int.reduceEq, Int.reduceLT, Int.reduceLE, Int.reduceNeg, Value.cells, Value.oneCell', Nat.reduceAdd, Nat.reduceEqDiff, fillL, setL, Nat.reduceLeDiff, ]
  refine hK _ _ ?_
  clear hK K
  have hE0 : Ext H ((H.push (.cells #[.int .i64 a, .int .i64 b] 24)).push (.cells #[.int .i64 0, .int .i64 0] 24)) := ((Ext.refl _).push _).push _
  have hc6 := rdn_new (H.push (.cells #[.int .i64 a, .int .i64 b] 24)) [.int .i64 0, .int .i64 0] 24 0 2 (Nat.le_refl _)
  have ho6 := Own_new (H.push (.cells #[.int .i64 a, .int .i64 b] 24)) [.int .i64 0, .int .i64 0] 24
  simp only [Array.size_push] at hc6 ho6
  have hz0 : ((H.push (.cells #[.int .i64 a, .int .i64 b] 24)).push (.cells #[.int .i64 0, .int .i64 0] 24)).size = H.size + 2 := by simp
  generalize (H.push (.cells #[.int .i64 a, .int .i64 b] 24)).push (.cells #[.int .i64 0, .int .i64 0] 24) = H0 at hE0 hc6 ho6 hz0 ⊢
  refine w_seq (w_seq ?_)
  refine w_reg fun K hK => ?_
  simp (disch := omega) only [↓wD, wU, Nat.reduceBEq, reduceCtorEq, Int.reduceEq, Int.reduceLT, Int.reduceLE, Int.reduceNeg, Value.cells, Value.oneCell', Nat.reduceAdd, Nat.reduceEqDiff, fillL, setL, Nat.reduceLeDiff, ]
  refine w_call (Values_cl) ?_
  rintro _ H1 ⟨rfl, rfl⟩
  simp (disch := omega) only [↓wD, wU, Nat.reduceBEq, reduceCtorEq, Int.reduceEq, Int.reduceLT, Int.reduceLE, Int.reduceNeg, Value.cells, Value.oneCell', Nat.reduceAdd, Nat.reduceEqDiff, fillL, setL, Nat.reduceLeDiff, ]
  have hE1 : Ext H0 (H0.push (.cells [Value.slice (some ⟨kb, ko, none⟩) 1 kc].toArray 74)) := (Ext.refl _).push _
  have hB1 : cell (H0.push (.cells [Value.slice (some ⟨kb, ko, none⟩) 1 kc].toArray 74)) H0.size 0 = some (.slice (some ⟨kb, ko, none⟩) 1 kc) := cell_new _ _ _ 0
  generalize H0.push (.cells [Value.slice (some ⟨kb, ko, none⟩) 1 kc].toArray 74) = H1 at hE1 hB1 ⊢
  have hE01 := hE0.trans hE1
  refine w_call (sorted1_cl hB1 ((hE01.cell kb ko hkb).trans hkx) hsz) ?_
  rintro _ H2 ⟨hss, hE2⟩
  obtain ⟨sa, sc, rfl, hsc, -, hsel⟩ := SlP.open hss
  obtain ⟨sb, so, rfl, -, scs, hsr, rfl, -⟩ := hsel 0 (by simp)
  have hsx := rdn1 hsr
  simp only [Nat.zero_mul, Nat.add_zero, List.getElem_cons_zero] at hsx
  simp only [List.length_cons, List.length_nil, Nat.zero_add] at hsc ⊢
  simp (disch := omega) only [↓wD, wU, Nat.reduceBEq, reduceCtorEq, Int.reduceEq, Int.reduceLT, Int.reduceLE, Int.reduceNeg, Value.cells, Value.oneCell', Nat.reduceAdd, Nat.reduceEqDiff, fillL, setL, Nat.reduceLeDiff, cast1]
  refine hK _ _ ?_
  clear hK K
  have hE12 : Ext H0 H2 := hE1.trans hE2
  have two : ∀ {HX : Hp}, Ext H0 HX → Own HX (H.size + 1) 0 2 := fun {HX} hX => Own_block (hX.2 _ (by omega)) ho6
  refine w_blk (w_loop (fun n' f H' => Ext H2 H' ∧ f 0 = v ∧ f 6 = .pointer (some ⟨H.size + 1, 0, none⟩) ∧ f 14 = .slice (some ⟨sb, so, none⟩) 1 sc ∧ f 15 = .int .i64 1 ∧ ((f 16 = .int .i64 0 ∧ n' = 1) ∨ (f 16 = .int .i64 1 ∧ n' = 0))) 1 ⟨Ext.refl _, (by simp only [ev_tmp, ev_const, upd_apply, Nat.reduceBEq, cond_true, cond_false, ]), (by simp only [ev_tmp, ev_const, upd_apply, Nat.reduceBEq, cond_true, cond_false, ]), (by simp only [ev_tmp, ev_const, upd_apply, Nat.reduceBEq, cond_true, cond_false, ]), (by simp only [ev_tmp, ev_const, upd_apply, Nat.reduceBEq, cond_true, cond_false, ]), .inl ⟨rfl, rfl⟩⟩ ?_)
  rintro n' f H' ⟨hE, f0, f6, f14, f15, ⟨f16, rfl⟩ | ⟨f16, rfl⟩⟩
  · have h01 : ((0 : Int) < 1) = True := by simp
    have h01n : ((0 : Int) < ((1 : Nat) : Int)) = True := by simp
    have t0 : (0 : Int).toNat = 0 := rfl
    have hsx' := (hE.cell sb so (cell_lt hsx)).trans hsx
    refine w_reg fun K hK => ?_
    simp (disch := omega) only [↓wD, wU, Nat.reduceBEq, reduceCtorEq, Int.reduceEq, Int.reduceLT, Int.reduceLE, Int.reduceNeg, Value.cells, Value.oneCell', Nat.reduceAdd, Nat.reduceEqDiff, fillL, setL, Nat.reduceLeDiff, f15, f16, h01]
    refine hK _ _ ?_
    clear hK K
    refine w_seq ?_
    refine w_true (by simp only [ev_tmp, ev_const, upd_apply, Nat.reduceBEq, cond_true, cond_false, Bool.not_true, Bool.not_false, ]) ?_
    refine w_skip ?_
    repeat (first | with_reducible refine q_n ?_ | with_reducible refine q_e ?_ | with_reducible refine q_r ?_ | with_reducible refine bq_n ?_ | with_reducible refine bq_e ?_ | with_reducible refine bq_r ?_ | with_reducible refine bq_o rfl ?_)
    refine w_seq (w_blk ?_)
    refine w_reg fun K hK => ?_
    simp (disch := omega) only [↓wD, wU, Nat.reduceBEq, reduceCtorEq, Int.reduceEq, Int.reduceLT, Int.reduceLE, Int.reduceNeg, Value.cells, Value.oneCell', Nat.reduceAdd, Nat.reduceEqDiff, fillL, setL, Nat.reduceLeDiff, f14, f16, h01, h01n, hsx', t0, Nat.zero_lt_one]
    refine hK _ _ ?_
    clear hK K
    refine w_reg fun K hK => ?_
    simp (disch := omega) only [↓wD, wU, Nat.reduceBEq, reduceCtorEq, Int.reduceEq, Int.reduceLT, Int.reduceLE, Int.reduceNeg, Value.cells, Value.oneCell', Nat.reduceAdd, Nat.reduceEqDiff, fillL, setL, Nat.reduceLeDiff, f0]
    have hEA := (hE0.trans hE12).trans hE
    refine w_call (OfNo_cl key (h.ext hEA)) ?_
    rintro _ H3 ⟨hE3, rfl⟩
    simp (disch := omega) only [↓wD, wU, Nat.reduceBEq, reduceCtorEq, Int.reduceEq, Int.reduceLT, Int.reduceLE, Int.reduceNeg, Value.cells, Value.oneCell', Nat.reduceAdd, Nat.reduceEqDiff, fillL, setL, Nat.reduceLeDiff, ]
    refine hK _ _ ?_
    clear hK K
    refine w_reg fun K hK => ?_
    simp (disch := omega) only [↓wD, wU, Nat.reduceBEq, reduceCtorEq, Int.reduceEq, Int.reduceLT, Int.reduceLE, Int.reduceNeg, Value.cells, Value.oneCell', Nat.reduceAdd, Nat.reduceEqDiff, fillL, setL, Nat.reduceLeDiff, ]
    refine hK _ _ ?_
    clear hK K
    refine w_false (by simp only [ev_tmp, ev_const, upd_apply, Nat.reduceBEq, cond_true, cond_false, Bool.not_true, Bool.not_false, ]) ?_
    refine w_skip ?_
    repeat (first | with_reducible refine q_n ?_ | with_reducible refine q_e ?_ | with_reducible refine q_r ?_ | with_reducible refine bq_n ?_ | with_reducible refine bq_e ?_ | with_reducible refine bq_r ?_ | with_reducible refine bq_o rfl ?_)
    have hw1 : IntKind.i64.wrap (0 + 1) = 1 := by rw [wr64 (by omega) (by omega)]; rfl
    refine w_reg1 fun K hK => ?_
    simp (disch := omega) only [↓wD, wU, Nat.reduceBEq, reduceCtorEq, Int.reduceEq, Int.reduceLT, Int.reduceLE, Int.reduceNeg, Value.cells, Value.oneCell', Nat.reduceAdd, Nat.reduceEqDiff, fillL, setL, Nat.reduceLeDiff, f16, hw1]
    refine hK _ _ ?_
    clear hK K
    repeat (first | with_reducible refine q_n ?_ | with_reducible refine q_e ?_ | with_reducible refine q_r ?_ | with_reducible refine bq_n ?_ | with_reducible refine bq_e ?_ | with_reducible refine bq_r ?_ | with_reducible refine bq_o rfl ?_)
    exact ⟨0, by decide, (hE.trans hE3).push _, (by simp only [ev_tmp, ev_const, upd_apply, Nat.reduceBEq, cond_true, cond_false, f0]), (by simp only [ev_tmp, ev_const, upd_apply, Nat.reduceBEq, cond_true, cond_false, f6]), (by simp only [ev_tmp, ev_const, upd_apply, Nat.reduceBEq, cond_true, cond_false, f14]), (by simp only [ev_tmp, ev_const, upd_apply, Nat.reduceBEq, cond_true, cond_false, f15]), .inr ⟨(by simp only [ev_tmp, ev_const, upd_apply, Nat.reduceBEq, cond_true, cond_false, ]), rfl⟩⟩
  · have h11 : ((1 : Int) < 1) = False := by simp
    refine w_reg fun K hK => ?_
    simp (disch := omega) only [↓wD, wU, Nat.reduceBEq, reduceCtorEq, Int.reduceEq, Int.reduceLT, Int.reduceLE, Int.reduceNeg, Value.cells, Value.oneCell', Nat.reduceAdd, Nat.reduceEqDiff, fillL, setL, Nat.reduceLeDiff, f15, f16, h11]
    refine hK _ _ ?_
    clear hK K
    refine w_seq ?_
    refine w_false (by simp only [ev_tmp, ev_const, upd_apply, Nat.reduceBEq, cond_true, cond_false, Bool.not_true, Bool.not_false, ]) ?_
    refine w_exit ?_
    repeat (first | with_reducible refine q_n ?_ | with_reducible refine q_e ?_ | with_reducible refine q_r ?_ | with_reducible refine bq_n ?_ | with_reducible refine bq_e ?_ | with_reducible refine bq_r ?_ | with_reducible refine bq_o rfl ?_)
    obtain ⟨H5, hw, hW⟩ := wrn_ok (H := H') (b := H.size + 1) (o := 0) (l := [.int .i64 0, .int .i64 0]) (two (hE12.trans hE)) (by intro v hv; simp at hv; subst hv; rfl)
    have hr5' : rdn H5 (H.size + 1) 0 2 = some [.int .i64 0, .int .i64 0] := hW.rdn_at
    obtain ⟨q0, q1⟩ := rdn2 hr5'
    refine w_reg fun K hK => ?_
    simp (disch := omega) only [↓wD, wU, Nat.reduceBEq, reduceCtorEq, Int.reduceEq, Int.reduceLT, Int.reduceLE, Int.reduceNeg, Value.cells, Value.oneCell', Nat.reduceAdd, Nat.reduceEqDiff, fillL, setL, Nat.reduceLeDiff, f6, hw]
    refine hK _ _ ?_
    clear hK K
    refine w_ret ?_
    repeat (first | with_reducible refine q_n ?_ | with_reducible refine q_e ?_ | with_reducible refine q_r ?_ | with_reducible refine bq_n ?_ | with_reducible refine bq_e ?_ | with_reducible refine bq_r ?_ | with_reducible refine bq_o rfl ?_)
    refine retG (v := .tuple #[.agg #[.int .i64 0, .int .i64 0], .bool false]) (by simp (disch := omega) only [resV, rvsV, rvV, oneOr, ↓wD, wU, Nat.reduceBEq, reduceCtorEq, Int.reduceEq, Int.reduceLT, Int.reduceLE, Int.reduceNeg, Value.cells, Value.oneCell', Nat.reduceAdd, Nat.reduceEqDiff, fillL, setL, Nat.reduceLeDiff, f6, rd2, q0, q1]) ?_
    exact ⟨hW.ext ((hE0.trans hE12).trans hE) (by omega), rfl⟩
end Go.WK
/-
  HoldsNil.
-/
namespace Go.WK
open Go Go.Proofs

theorem HoldsNil_cl {S : Nat → Prop} {H : Hp} {v : Value} {l : List Hd} {key : ByteArray} (hv : HdSl S H v l) (hk : Sz key) :
    ClL Tryz.prog 7 [v, .string key] H fun r H' => r = .bool true ∧ Ext H H' := by
  refine clL_of mixed c_watershedlaw16_HoldsNil (Nat.le_of_ble_eq_true rfl) ?_
  simp only [fwp, ir_watershedlaw16_HoldsNil, argF, Nat.reduceAdd]
  have hk' := hk
  unfold Sz big at hk
  refine w_reg fun K hK => ?_
  simp (disch := omega) only [↓wD, wU, Nat.reduceBEq, reduceCtorEq, Int.reduceEq, Int.reduceLT, Int.reduceLE, Int.reduceNeg, Value.cells, Value.oneCell', Nat.reduceAdd, Nat.reduceEqDiff, fillL, setL, Nat.reduceLeDiff, ]
  refine hK _ _ ?_
  clear hK K
  refine w_seq (w_seq ?_)
  refine w_reg fun K hK => ?_
  simp (disch := omega) only [↓wD, wU, Nat.reduceBEq, reduceCtorEq, Int.reduceEq, Int.reduceLT, Int.reduceLE, Int.reduceNeg, Value.cells, Value.oneCell', Nat.reduceAdd, Nat.reduceEqDiff, fillL, setL, Nat.reduceLeDiff, ]
  refine w_call (awake_cl) ?_
  rintro _ H1 ⟨rfl, hE1⟩
  simp (disch := omega) only [↓wD, wU, Nat.reduceBEq, reduceCtorEq, Int.reduceEq, Int.reduceLT, Int.reduceLE, Int.reduceNeg, Value.cells, Value.oneCell', Nat.reduceAdd, Nat.reduceEqDiff, fillL, setL, Nat.reduceLeDiff, ]
  refine hK _ _ ?_
  clear hK K
  refine w_false (by simp only [ev_tmp, ev_const, upd_apply, Nat.reduceBEq, cond_true, cond_false, Bool.not_true, Bool.not_false, ]) ?_
  refine w_skip ?_
  repeat (first | with_reducible refine q_n ?_ | with_reducible refine q_e ?_ | with_reducible refine q_r ?_ | with_reducible refine bq_n ?_ | with_reducible refine bq_e ?_ | with_reducible refine bq_r ?_ | with_reducible refine bq_o rfl ?_)
  refine w_seq (w_seq ?_)
  refine w_reg fun K hK => ?_
  simp (disch := omega) only [↓wD, wU, Nat.reduceBEq, reduceCtorEq, Int.reduceEq, Int.reduceLT, Int.reduceLE, Int.reduceNeg, Value.cells, Value.oneCell', Nat.reduceAdd, Nat.reduceEqDiff, fillL, setL, Nat.reduceLeDiff, ]
  refine w_call (HoldsOf_cl 1500 (hv.ext hE1)) ?_
  rintro _ H1 ⟨rfl, m, rfl⟩
  by_cases hm : 1500 < m
  · simp (disch := omega) only [↓wD, wU, Nat.reduceBEq, reduceCtorEq, Int.reduceEq, Int.reduceLT, Int.reduceLE, Int.reduceNeg, Value.cells, Value.oneCell', Nat.reduceAdd, Nat.reduceEqDiff, fillL, setL, Nat.reduceLeDiff, hm]
    refine hK _ _ ?_
    clear hK K
    refine w_true (by simp only [ev_tmp, ev_const, upd_apply, Nat.reduceBEq, cond_true, cond_false, Bool.not_true, Bool.not_false, ]) ?_
    refine w_reg fun K hK => ?_
    simp (disch := omega) only [↓wD, wU, Nat.reduceBEq, reduceCtorEq, Int.reduceEq, Int.reduceLT, Int.reduceLE, Int.reduceNeg, Value.cells, Value.oneCell', Nat.reduceAdd, Nat.reduceEqDiff, fillL, setL, Nat.reduceLeDiff, ]
    refine hK _ _ ?_
    clear hK K
    refine w_ret ?_
    repeat (first | with_reducible refine q_n ?_ | with_reducible refine q_e ?_ | with_reducible refine q_r ?_ | with_reducible refine bq_n ?_ | with_reducible refine bq_e ?_ | with_reducible refine bq_r ?_ | with_reducible refine bq_o rfl ?_)
    refine ret1 (by (try simp only [ev_tmp, ev_const, upd_apply, Nat.reduceBEq, cond_true, cond_false, ]); rfl) ?_
    exact ⟨rfl, hE1⟩
  by_cases hk2 : (1500 : Int) < key.size
  · simp (disch := omega) only [↓wD, wU, Nat.reduceBEq, reduceCtorEq, Int.reduceEq, Int.reduceLT, Int.reduceLE, Int.reduceNeg, Value.cells, Value.oneCell', Nat.reduceAdd, Nat.reduceEqDiff, fillL, setL, Nat.reduceLeDiff, hm, hk2]
    refine hK _ _ ?_
    clear hK K
    refine w_true (by simp only [ev_tmp, ev_const, upd_apply, Nat.reduceBEq, cond_true, cond_false, Bool.not_true, Bool.not_false, ]) ?_
    refine w_reg fun K hK => ?_
    simp (disch := omega) only [↓wD, wU, Nat.reduceBEq, reduceCtorEq, Int.reduceEq, Int.reduceLT, Int.reduceLE, Int.reduceNeg, Value.cells, Value.oneCell', Nat.reduceAdd, Nat.reduceEqDiff, fillL, setL, Nat.reduceLeDiff, ]
    refine hK _ _ ?_
    clear hK K
    refine w_ret ?_
    repeat (first | with_reducible refine q_n ?_ | with_reducible refine q_e ?_ | with_reducible refine q_r ?_ | with_reducible refine bq_n ?_ | with_reducible refine bq_e ?_ | with_reducible refine bq_r ?_ | with_reducible refine bq_o rfl ?_)
    refine ret1 (by (try simp only [ev_tmp, ev_const, upd_apply, Nat.reduceBEq, cond_true, cond_false, ]); rfl) ?_
    exact ⟨rfl, hE1⟩
  simp (disch := omega) only [↓wD, wU, Nat.reduceBEq, reduceCtorEq, Int.reduceEq, Int.reduceLT, Int.reduceLE, Int.reduceNeg, Value.cells, Value.oneCell', Nat.reduceAdd, Nat.reduceEqDiff, fillL, setL, Nat.reduceLeDiff, hm, hk2]
  refine hK _ _ ?_
  clear hK K
  refine w_false (by simp only [ev_tmp, ev_const, upd_apply, Nat.reduceBEq, cond_true, cond_false, Bool.not_true, Bool.not_false, ]) ?_
  refine w_skip ?_
  repeat (first | with_reducible refine q_n ?_ | with_reducible refine q_e ?_ | with_reducible refine q_r ?_ | with_reducible refine bq_n ?_ | with_reducible refine bq_e ?_ | with_reducible refine bq_r ?_ | with_reducible refine bq_o rfl ?_)
  refine w_reg fun K hK => ?_
  simp (disch := omega) only [↓wD, wU, Nat.reduceBEq, reduceCtorEq, Int.reduceEq, Int.reduceLT, Int.reduceLE, Int.reduceNeg, Value.cells, Value.oneCell', Nat.reduceAdd, Nat.reduceEqDiff, fillL, setL, Nat.reduceLeDiff, ]
  refine hK _ _ ?_
  clear hK K
  refine w_reg fun K hK => ?_
  simp (disch := omega) only [↓wD, wU, Nat.reduceBEq, reduceCtorEq, Int.reduceEq, Int.reduceLT, Int.reduceLE, Int.reduceNeg, Value.cells, Value.oneCell', Nat.reduceAdd, Nat.reduceEqDiff, fillL, setL, Nat.reduceLeDiff, ]
  refine hK _ _ ?_
  clear hK K
  have hE2 : Ext H1 ((H1.push (.cells #[.slice none 0 0, .bool false] 90)).push (.cells #[.pointer none, .pointer (some ⟨H1.size, 0, none⟩)] 27)) := ((Ext.refl _).push _).push _
  have hr2 := rdn_ext ((Ext.refl _).push (.cells #[.pointer none, .pointer (some ⟨H1.size, 0, none⟩)] 27)) (rdn_new H1 [.slice none 0 0, .bool false] 90 0 2 (Nat.le_refl _))
  have hr3 := rdn_new (H1.push (.cells #[.slice none 0 0, .bool false] 90)) [.pointer none, .pointer (some ⟨H1.size, 0, none⟩)] 27 0 2 (Nat.le_refl _)
  simp only [Array.size_push] at hr3
  generalize (H1.push (.cells #[.slice none 0 0, .bool false] 90)).push (.cells #[.pointer none, .pointer (some ⟨H1.size, 0, none⟩)] 27) = H2 at hE2 hr2 hr3 ⊢
  obtain ⟨-, m1⟩ := rdn2 hr2
  obtain ⟨s0, s1⟩ := rdn2 hr3
  simp only [Nat.zero_add] at s1
  have n0 : NoTab H2 (.pointer none) := .inl rfl
  have n1 : NoTab H2 (.pointer (some ⟨H1.size, 0, none⟩)) := .inr ⟨_, rfl, m1⟩
  clear m1 hr2 hr3
  refine w_seq (w_seq ?_)
  refine w_reg fun K hK => ?_
  simp (disch := omega) only [↓wD, wU, Nat.reduceBEq, reduceCtorEq, Int.reduceEq, Int.reduceLT, Int.reduceLE, Int.reduceNeg, Value.cells, Value.oneCell', Nat.reduceAdd, Nat.reduceEqDiff, fillL, setL, Nat.reduceLeDiff, ]
  refine hK _ _ ?_
  clear hK K
  refine w_blk (w_loop (fun n' f H' => f 1 = .string key ∧ f 0 = v ∧ f 6 = .slice (some ⟨H1.size + 1, 0, none⟩) 2 2 ∧ Ext H2 H' ∧ ∃ i : Nat, f 7 = .int .i64 i ∧ i ≤ 2 ∧ n' = 2 - i) _ ⟨(by simp only [ev_tmp, ev_const, upd_apply, Nat.reduceBEq, cond_true, cond_false, ]), (by simp only [ev_tmp, ev_const, upd_apply, Nat.reduceBEq, cond_true, cond_false, ]), (by simp only [ev_tmp, ev_const, upd_apply, Nat.reduceBEq, cond_true, cond_false, ]), Ext.refl _, 0, (by simp only [ev_tmp, ev_const, upd_apply, Nat.reduceBEq, cond_true, cond_false, ]; rfl), Nat.zero_le _, rfl⟩ ?_)
  rintro n' f H' ⟨f1, f0, f6, hE, i, f7, hi, rfl⟩
  refine w_seq (w_seq ?_)
  by_cases hil : i < 2
  · refine w_reg fun K hK => ?_
    simp (disch := omega) only [↓wD, wU, Nat.reduceBEq, reduceCtorEq, Int.reduceEq, Int.reduceLT, Int.reduceLE, Int.reduceNeg, Value.cells, Value.oneCell', Nat.reduceAdd, Nat.reduceEqDiff, fillL, setL, Nat.reduceLeDiff, f6, f7, hil]
    refine hK _ _ ?_
    clear hK K
    refine w_true (by simp only [ev_tmp, ev_const, upd_apply, Nat.reduceBEq, cond_true, cond_false, Bool.not_true, Bool.not_false, ]) ?_
    refine w_skip ?_
    repeat (first | with_reducible refine q_n ?_ | with_reducible refine q_e ?_ | with_reducible refine q_r ?_ | with_reducible refine bq_n ?_ | with_reducible refine bq_e ?_ | with_reducible refine bq_r ?_ | with_reducible refine bq_o rfl ?_)
    obtain ⟨u, hu, hcu⟩ : ∃ u, NoTab H' u ∧ cell H' (H1.size + 1) i = some u := by
      have e := fun j => hE.cell (H1.size + 1) j (cell_lt s0)
      match i, hil with
      | 0, _ => exact ⟨_, n0.ext hE, (e 0).trans s0⟩
      | 1, _ => exact ⟨_, n1.ext hE, (e 1).trans s1⟩
    refine w_seq (w_blk ?_)
    refine w_reg fun K hK => ?_
    simp (disch := omega) only [↓wD, wU, Nat.reduceBEq, reduceCtorEq, Int.reduceEq, Int.reduceLT, Int.reduceLE, Int.reduceNeg, Value.cells, Value.oneCell', Nat.reduceAdd, Nat.reduceEqDiff, fillL, setL, Nat.reduceLeDiff, f6, f7, hil, hcu, Nat.mul_one]
    refine hK _ _ ?_
    clear hK K
    refine w_reg fun K hK => ?_
    simp (disch := omega) only [↓wD, wU, Nat.reduceBEq, reduceCtorEq, Int.reduceEq, Int.reduceLT, Int.reduceLE, Int.reduceNeg, Value.cells, Value.oneCell', Nat.reduceAdd, Nat.reduceEqDiff, fillL, setL, Nat.reduceLeDiff, f1]
    refine w_call (OfNo_cl key hu) ?_
    rintro _ H3 ⟨hE3, rfl⟩
    simp (disch := omega) only [↓wD, wU, Nat.reduceBEq, reduceCtorEq, Int.reduceEq, Int.reduceLT, Int.reduceLE, Int.reduceNeg, Value.cells, Value.oneCell', Nat.reduceAdd, Nat.reduceEqDiff, fillL, setL, Nat.reduceLeDiff, ]
    refine hK _ _ ?_
    clear hK K
    have hE4 : Ext H3 (H3.push (.cells #[.string .empty, .int .i64 0, .int .i64 0, .slice none 0 0, .slice none 0 0, .bool false, .string .empty] 35)) := (Ext.refl _).push _
    generalize H3.push (.cells #[.string .empty, .int .i64 0, .int .i64 0, .slice none 0 0, .slice none 0 0, .bool false, .string .empty] 35) = H4 at hE4 ⊢
    refine w_reg fun K hK => ?_
    simp (disch := omega) only [↓wD, wU, Nat.reduceBEq, reduceCtorEq, Int.reduceEq, Int.reduceLT, Int.reduceLE, Int.reduceNeg, Value.cells, Value.oneCell', Nat.reduceAdd, Nat.reduceEqDiff, fillL, setL, Nat.reduceLeDiff, f1]
    have hE5 : Ext H4 (H4.push (.cells #[.string key] 9)) := (Ext.refl _).push _
    have hE35 := (hE3.trans hE4).trans hE5
    refine w_call (BusyNo_cl 0 0 (hu.ext hE35) (str1 hk' 9)) ?_
    rintro _ H6 ⟨hE6, rfl⟩
    simp (disch := omega) only [↓wD, wU, Nat.reduceBEq, reduceCtorEq, Int.reduceEq, Int.reduceLT, Int.reduceLE, Int.reduceNeg, Value.cells, Value.oneCell', Nat.reduceAdd, Nat.reduceEqDiff, fillL, setL, Nat.reduceLeDiff, ]
    refine hK _ _ ?_
    clear hK K
    have hE7 : Ext H6 (H6.push (.cells #[.int .i64 0, .int .i64 0] 24)) := (Ext.refl _).push _
    generalize H6.push (.cells #[.int .i64 0, .int .i64 0] 24) = H7 at hE7 ⊢
    have hE37 := (hE35.trans hE6).trans hE7
    refine w_reg fun K hK => ?_
    simp (disch := omega) only [↓wD, wU, Nat.reduceBEq, reduceCtorEq, Int.reduceEq, Int.reduceLT, Int.reduceLE, Int.reduceNeg, Value.cells, Value.oneCell', Nat.reduceAdd, Nat.reduceEqDiff, fillL, setL, Nat.reduceLeDiff, f0, f1]
    refine w_call (PutNo_cl (hu.ext hE37)) ?_
    rintro _ H7 ⟨rfl, rfl⟩
    simp (disch := omega) only [↓wD, wU, Nat.reduceBEq, reduceCtorEq, Int.reduceEq, Int.reduceLT, Int.reduceLE, Int.reduceNeg, Value.cells, Value.oneCell', Nat.reduceAdd, Nat.reduceEqDiff, fillL, setL, Nat.reduceLeDiff, ]
    refine w_call (ManyNo_cl (hu.ext hE37)) ?_
    rintro _ H7 ⟨rfl, rfl⟩
    simp (disch := omega) only [↓wD, wU, Nat.reduceBEq, reduceCtorEq, Int.reduceEq, Int.reduceLT, Int.reduceLE, Int.reduceNeg, Value.cells, Value.oneCell', Nat.reduceAdd, Nat.reduceEqDiff, fillL, setL, Nat.reduceLeDiff, ]
    refine w_call (CopyNo_cl (hu.ext hE37)) ?_
    rintro _ H7 ⟨rfl, rfl⟩
    simp (disch := omega) only [↓wD, wU, Nat.reduceBEq, reduceCtorEq, Int.reduceEq, Int.reduceLT, Int.reduceLE, Int.reduceNeg, Value.cells, Value.oneCell', Nat.reduceAdd, Nat.reduceEqDiff, fillL, setL, Nat.reduceLeDiff, ]
    refine w_call (ByNo_cl 0 0 (hu.ext hE37)) ?_
    rintro _ H8 ⟨rfl, hE8⟩
    simp (disch := omega) only [↓wD, wU, Nat.reduceBEq, reduceCtorEq, Int.reduceEq, Int.reduceLT, Int.reduceLE, Int.reduceNeg, Value.cells, Value.oneCell', Nat.reduceAdd, Nat.reduceEqDiff, fillL, setL, Nat.reduceLeDiff, ]
    have hE38 := hE37.trans hE8
    refine w_call (NamesNo_cl (hu.ext hE38)) ?_
    rintro _ H8 ⟨rfl, rfl⟩
    simp (disch := omega) only [↓wD, wU, Nat.reduceBEq, reduceCtorEq, Int.reduceEq, Int.reduceLT, Int.reduceLE, Int.reduceNeg, Value.cells, Value.oneCell', Nat.reduceAdd, Nat.reduceEqDiff, fillL, setL, Nat.reduceLeDiff, f1]
    have hE9 : Ext H8 (H8.push (.cells #[.string key] 9)) := (Ext.refl _).push _
    have hE39 := hE38.trans hE9
    refine w_call (FreeNo_cl (u := .slice (some ⟨H8.size, 0, none⟩) 1 1) ⟨rfl, rfl⟩ (hu.ext hE39)) ?_
    rintro _ H10 ⟨rfl, hE10⟩
    simp (disch := omega) only [↓wD, wU, Nat.reduceBEq, reduceCtorEq, Int.reduceEq, Int.reduceLT, Int.reduceLE, Int.reduceNeg, Value.cells, Value.oneCell', Nat.reduceAdd, Nat.reduceEqDiff, fillL, setL, Nat.reduceLeDiff, ]
    have hE310 := hE39.trans hE10
    refine w_call (InNo_cl _ _ (hu.ext hE310)) ?_
    rintro _ H11 ⟨rfl, hE11⟩
    simp (disch := omega) only [↓wD, wU, Nat.reduceBEq, reduceCtorEq, Int.reduceEq, Int.reduceLT, Int.reduceLE, Int.reduceNeg, Value.cells, Value.oneCell', Nat.reduceAdd, Nat.reduceEqDiff, fillL, setL, Nat.reduceLeDiff, ]
    have hE311 := hE310.trans hE11
    refine w_call (TakeNo_cl _ _ (hu.ext hE311)) ?_
    rintro _ H12 ⟨rfl, hE12⟩
    simp (disch := omega) only [↓wD, wU, Nat.reduceBEq, reduceCtorEq, Int.reduceEq, Int.reduceLT, Int.reduceLE, Int.reduceNeg, Value.cells, Value.oneCell', Nat.reduceAdd, Nat.reduceEqDiff, fillL, setL, Nat.reduceLeDiff, cast0, Int.add_zero]
    refine hK _ _ ?_
    clear hK K
    refine w_false (by simp only [ev_tmp, ev_const, upd_apply, Nat.reduceBEq, cond_true, cond_false, Bool.not_true, Bool.not_false, ]) ?_
    refine w_skip ?_
    repeat (first | with_reducible refine q_n ?_ | with_reducible refine q_e ?_ | with_reducible refine q_r ?_ | with_reducible refine bq_n ?_ | with_reducible refine bq_e ?_ | with_reducible refine bq_r ?_ | with_reducible refine bq_o rfl ?_)
    refine w_reg1 fun K hK => ?_
    simp (disch := omega) only [↓wD, wU, Nat.reduceBEq, reduceCtorEq, Int.reduceEq, Int.reduceLT, Int.reduceLE, Int.reduceNeg, Value.cells, Value.oneCell', Nat.reduceAdd, Nat.reduceEqDiff, fillL, setL, Nat.reduceLeDiff, f7]
    refine hK _ _ ?_
    clear hK K
    repeat (first | with_reducible refine q_n ?_ | with_reducible refine q_e ?_ | with_reducible refine q_r ?_ | with_reducible refine bq_n ?_ | with_reducible refine bq_e ?_ | with_reducible refine bq_r ?_ | with_reducible refine bq_o rfl ?_)
    exact ⟨2 - (i + 1), by omega, (by simp only [ev_tmp, ev_const, upd_apply, Nat.reduceBEq, cond_true, cond_false, f1]), (by simp only [ev_tmp, ev_const, upd_apply, Nat.reduceBEq, cond_true, cond_false, f0]), (by simp only [ev_tmp, ev_const, upd_apply, Nat.reduceBEq, cond_true, cond_false, f6]), hE.trans (hE311.trans hE12), i + 1, (by simp only [ev_tmp, ev_const, upd_apply, Nat.reduceBEq, cond_true, cond_false, ]), by omega, rfl⟩
  · refine w_reg fun K hK => ?_
    simp (disch := omega) only [↓wD, wU, Nat.reduceBEq, reduceCtorEq, Int.reduceEq, Int.reduceLT, Int.reduceLE, Int.reduceNeg, Value.cells, Value.oneCell', Nat.reduceAdd, Nat.reduceEqDiff, fillL, setL, Nat.reduceLeDiff, f6, f7, hil]
    refine hK _ _ ?_
    clear hK K
    refine w_false (by simp only [ev_tmp, ev_const, upd_apply, Nat.reduceBEq, cond_true, cond_false, Bool.not_true, Bool.not_false, ]) ?_
    refine w_exit ?_
    repeat (first | with_reducible refine q_n ?_ | with_reducible refine q_e ?_ | with_reducible refine q_r ?_ | with_reducible refine bq_n ?_ | with_reducible refine bq_e ?_ | with_reducible refine bq_r ?_ | with_reducible refine bq_o rfl ?_)
    refine w_reg fun K hK => ?_
    simp (disch := omega) only [↓wD, wU, Nat.reduceBEq, reduceCtorEq, Int.reduceEq, Int.reduceLT, Int.reduceLE, Int.reduceNeg, Value.cells, Value.oneCell', Nat.reduceAdd, Nat.reduceEqDiff, fillL, setL, Nat.reduceLeDiff, ]
    refine hK _ _ ?_
    clear hK K
    refine w_ret ?_
    repeat (first | with_reducible refine q_n ?_ | with_reducible refine q_e ?_ | with_reducible refine q_r ?_ | with_reducible refine bq_n ?_ | with_reducible refine bq_e ?_ | with_reducible refine bq_r ?_ | with_reducible refine bq_o rfl ?_)
    refine ret1 (by (try simp only [ev_tmp, ev_const, upd_apply, Nat.reduceBEq, cond_true, cond_false, ]); rfl) ?_
    exact ⟨rfl, (hE1.trans hE2).trans hE⟩
end Go.WK
