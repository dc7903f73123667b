/-
  HoldsBytes: for every list of holds and every bytes in memory the function returns true, does not panic and leaves what was there; its condition is the one of its row. Part 12 of 14.
-/
import Derived.Test.YtcafflmhjgnehaaGreatDoorHoldsBytesQ8
import Derived.Test.YtcafflmhjgnehaaGreatDoorHoldsBytesQ4
import Derived.RangeFuncBox
import Derived.RangeFuncLeaves
import Derived.RangeFuncNested
import Derived.RangeFuncBound
import Derived.RangeFuncCalls
import Derived.Shelf.Abstract
import Derived.WalkKit
import Derived.OwnWalkIn
import Derived.TacticsInMore
import Derived.LoopNIn
import Derived.LoopIn
import Derived.Test.YtcafflmhjgnehaaGreatDoorHoldsBytesQ5
import Derived.Test.YtcafflmhjgnehaaGreatDoorHoldsBytesQ7
import Derived.Test.YtcafflmhjgnehaaGreatDoorHoldsBytesQ6
set_option linter.unusedSimpArgs false
set_option linter.unusedVariables false
set_option linter.defProp false
set_option maxRecDepth 100000
/-
 Sorted texts: by the shelf.
-/
namespace Go.Proofs
open Go.RowKit Go.Maps Go.Sort Go.Shelf
theorem Tryz.sortsS (m : Nat) : AnyZ.SortsIn Tryz.prog Tryz.sortedS_ren Fence.wide m :=
 ⟨fun blk off cap ss W hH hblk hsz => callsIn_wide.2 (AnyM.slices_Sort_string Tryz.sortS blk off cap ss W hH hblk hsz),
  fun p cap W => callsIn_wide.2 (AnyM.slices_Sort_string_none Tryz.sortS p cap W)⟩

attribute [local go_sem] Oper.semAt_some
set_option maxRecDepth 100000 in
set_option maxHeartbeats 2000000 in
/-- slices.Values's closure at a slice of one text. -/
theorem Tryz.values_one (Bs b off cap : Nat) (x : List UInt8) (w : World) (hB : Bs < w.heap.size) (hb : b < w.heap.size) (hBs : w.cell? ⟨Bs, 0, none⟩ = some (.slice (some ⟨b, off, none⟩) 1 cap)) (hc : w.cell? ⟨b, off, none⟩ = some (encStr x)) :
  SeqGives Fence.wide 2 Tryz.prog 112 #[.pointer (some ⟨Bs, 0, none⟩)] encStr (fun ys => ys = [x]) 1 w := fun l J W hW hJ hY h0 => by
 have hBs' := (hW.cell (p := ⟨Bs, 0, none⟩) hB).trans hBs
 have hc' := (hW.cell (p := ⟨b, off, none⟩) hb).trans hc
 refine callsIn_of_wp Tryz.func112 rfl trivial ?_ rfl
 simp only [Tryz.ntmps112, List.size_toArray, List.length_cons, List.length_nil, Nat.reduceAdd, Nat.reduceSub, Array.replicate_succ, Array.replicate_zero, List.push_toArray, List.append_toArray, List.nil_append, List.cons_append]
 gi_wp2
 gi_loopw [7] (fun i wr => (i = .int .i64 0 ∧ wr = W) ∨ (i = .int .i64 1 ∧ J [x] wr)) (fun i _ => 1 - (intOf i).toNat)
 case atStart => exact .inl ⟨rfl, rfl⟩
 case round =>
  rcases hrel with ⟨rfl, rfl⟩ | ⟨rfl, hJs⟩
  ·obtain ⟨fn, tmps, assign, body, hy, hR⟩ := hY [] x wr h0 (by decide)
   gi_wp2
   refine hR.mono ?_
   rintro e W3 ⟨rfl, hJ3, hk3⟩
   gi_wp2
   go_roundw
   case rel => exact .inr ⟨by simp, hJ3⟩
   case measure => simp [intOf]
  ·gi_wp2
   go_end0
   exact ⟨⟨_, rfl⟩, _, rfl, hJs⟩

end Go.Proofs
namespace Go.WK
open Go Go.Proofs
/-- One text, sorted. -/
theorem sorted1_cl {H : Hp} {B b off c : Nat} {x : ByteArray} (hB : cell H B 0 = some (.slice (some ⟨b, off, none⟩) 1 c)) (hx : cell H b off = some (.string x)) (hs : Sz x) :
  Cl Tryz.prog 54 [.func (.func 112) #[] #[.pointer (some ⟨B, 0, none⟩)]] H fun r H' => StrSl (fun y => H.size ≤ y ∧ y < H'.size) H' r [x] ∧ Ext H H' := by
 refine .inl ⟨by kernel_rfl, fun w hw => ?_⟩
 subst hw
 have hseq := Tryz.values_one B b off c x.data.toList w (cell_lt hB) (cell_lt hx) (by rw [cell?_eq]; exact hB) (by rw [cell?_eq, hx]; done)
 have cS := Go.Proofs.AnyZ.sorted_in Tryz.sortedS Fence.wide 5 trivial trivial trivial trivial rfl (by omega) (Tryz.sortsS _) (enters_of Tryz.func111 (by kernel_rfl) rfl) 112 #[.pointer (some ⟨B, 0, none⟩)] trivial (enters_of Tryz.func112 (by kernel_rfl) rfl) _ 1 (by decide) (by decide) _ hseq
 have cS' := callsIn_wide.1 cS
 refine Calls.mono cS' ?_
 rintro e w' ⟨v, ss, rfl, rfl, hrow, hnil, hb⟩
 refine ⟨⟨hb.os, hb.tape, hb.output⟩, v, rfl, ?_, hb.size, fun k hk => hb.block k hk⟩
 rcases hrow.2 with ⟨_, hz⟩ | ⟨g, cap, cur, rfl, hbase, hg, r1, r2, r3, r4⟩
 ·cases hz
 have hgl : g < w'.heap.size := (Array.getElem?_eq_some_iff.1 hg).1
 refine ⟨(by decide : (1 : Nat) ≤ big), .inr ⟨g, 0, cap, rfl, r1, fun i hi => ?_⟩⟩
 have hi0 : i = 0 := by simp at hi; omega
 subst hi0
 refine ⟨⟨hbase, hgl⟩, [.string x], ?_, rfl, hs⟩
 refine rdn_of rfl fun j hj => ?_
 have hj0 : j = 0 := by omega
 subst hj0
 have hcur : cur.toList[0]? = some (.string x) := by
  have h1 := congrArg (fun l => l[0]?) r4
  simp only [List.getElem?_take] at h1
  simpa [encStr] using h1
 unfold cell
 rw [hg]
 simpa using hcur
end Go.WK
/-
 Who is busy; the document's example.
-/
namespace Go.WK
open Go Go.Proofs

theorem Values_cl {H : Hp} {a : Option Addr} {n c : Nat} : Cl Tryz.prog 55 [.slice a n c] H fun r H' => r = .func (.func 112) #[] #[.pointer (some ⟨H.size, 0, none⟩)] ∧ H' = H.push (.cells [Value.slice a n c].toArray 74) := by
 refine cl_of mixed c_slices_Values_string (Nat.le_of_ble_eq_true rfl) ?_
 simp only [fwp, ir_slices_Values_string, argF, Nat.reduceAdd]
 refine w_reg fun K hK => ?_; simp (disch := omega) only [↓wD, wU, simprocAttr]; refine hK _ _ ?_; clear hK K
 refine w_reg fun K hK => ?_; simp (disch := omega) only [↓wD, wU, simprocAttr]; refine hK _ _ ?_; clear hK K
 refine w_ret ?_; (with_reducible repeat first | apply q_n | apply q_e | apply q_r | apply bq_n | apply bq_e | apply bq_r | apply bq_o rfl); refine ret1 (by (try simp only [wL, Nat.reduceBEq]); rfl) ?_
 exact ⟨rfl, rfl⟩
theorem sorted_unique {L : List Hd} (hs : Sorted L) {x y : Hd} (hx : x ∈ L) (hy : y ∈ L) (h : x.key = y.key) : x = y := by
 obtain ⟨i, hi, rfl⟩ := List.getElem_of_mem hx
 obtain ⟨j, hj, rfl⟩ := List.getElem_of_mem hy
 rcases Nat.lt_trichotomy i j with h1 | rfl | h1
 ·have := hs.get hi hj h1
  rw [h, sless_irrefl] at this; cases this
 ·rfl
 ·have := hs.get hj hi h1
  rw [h, sless_irrefl] at this; cases this

theorem Busy_cl {M G S : Nat → Prop} {H : Hp} {p : Nat} {L : List Hd} {v vk : Value} {key : ByteArray} (n : Nm) (hT : Tab M G H p L v) (hs : Sorted L) (hm : Sm L) (hk : StrSl S H vk [key]) :
  Cl Tryz.prog 15 [.pointer (some ⟨p, 0, none⟩), .agg #[.int .i64 n.client, .int .i64 n.num], vk] H fun r H' => Ext H H' ∧ ∃ (a : Nm) (b : Bool), r = .tuple #[.agg #[.int .i64 a.client, .int .i64 a.num], .bool b] ∧
   ((b = true ∧ ∃ x ∈ L, x.key = key ∧ x.name ≠ n ∧ a = x.name) ∨ (b = false ∧ a = ⟨0, 0⟩ ∧ ∀ x ∈ L, x.key = key → x.name = n)) := by
 refine cl_of mixed c_holds_Holds_Busy (Nat.le_of_ble_eq_true rfl) ?_
 simp only [fwp, ir_holds_Holds_Busy, argF, Nat.reduceAdd]
 obtain ⟨ka, kc, rfl, hkc, -, hkel⟩ := SlP.open hk
 obtain ⟨kb, ko, rfl, hkS, kcs, hkr, rfl, hsz⟩ := hkel 0 (by simp)
 have hkx := rdn1 hkr
 simp only [Nat.zero_mul, Nat.add_zero, List.getElem_cons_zero] at hkx hsz
 simp only [List.length_cons, List.length_nil, Nat.zero_add] at hkc ⊢
 have hkb := cell_lt hkx
 refine w_reg fun K hK => ?_; simp (disch := omega) only [↓wD, wU, simprocAttr]; refine hK _ _ ?_; clear hK K
 generalize hH0 : (H.push (.cells #[.int .i64 n.client, .int .i64 n.num] 24)).push (.cells #[.int .i64 0, .int .i64 0] 24) = H0
 have hE0 : Ext H H0 := by subst hH0; exact ((Ext.refl _).push _).push _
 have hcn : rdn H0 H.size 0 2 = some [.int .i64 n.client, .int .i64 n.num] := by
  subst hH0; exact rdn_ext ((Ext.refl _).push _) (rdn_new H [_, _] 24 0 2 (Nat.le_refl _))
 have hc6 : ∀ j, j < 2 → cell H0 (H.size + 1) j = some (.int .i64 0) := by
  subst hH0
  intro j hj
  have := cell_new (H.push (.cells #[.int .i64 n.client, .int .i64 n.num] 24)) [.int .i64 0, .int .i64 0] 24 j
  simp only [Array.size_push] at this
  rw [this]
  match j, hj with
  | 0, _ => rfl
  | 1, _ => rfl
 have hf6 : ∀ j, frz H0 (H.size + 1) j = false := by
  subst hH0
  intro j
  have := frz_new (H.push (.cells #[.int .i64 n.client, .int .i64 n.num] 24)) [.int .i64 0, .int .i64 0] 24 j
  simpa only [Array.size_push] using this
 have hz0 : H0.size = H.size + 2 := by subst hH0; simp
 clear hH0
 obtain ⟨cn0, cn1⟩ := rdn2 hcn
 refine w_seq (w_seq ?_)
 refine w_reg fun K hK => ?_
 simp (disch := omega) only [↓wD, wU, simprocAttr]
 refine w_call (Values_cl) ?_
 rintro _ H1 ⟨rfl, rfl⟩
 simp (disch := omega) only [↓wD, wU, simprocAttr]
 have hE1 : Ext H0 (H0.push (.cells [Value.slice (some ⟨kb, ko, none⟩) 1 kc].toArray 74)) := (Ext.refl _).push _
 have hB1 : cell (H0.push (.cells [Value.slice (some ⟨kb, ko, none⟩) 1 kc].toArray 74)) H0.size 0 = some (.slice (some ⟨kb, ko, none⟩) 1 kc) := cell_new _ _ _ 0
 generalize H0.push (.cells [Value.slice (some ⟨kb, ko, none⟩) 1 kc].toArray 74) = H1 at hE1 hB1 ⊢
 have hE01 := hE0.trans hE1
 refine w_call (sorted1_cl hB1 ((hE01.cell kb ko hkb).trans hkx) hsz) ?_
 rintro _ H2 ⟨hss, hE2⟩
 obtain ⟨sa, sc, rfl, hsc, -, hsel⟩ := SlP.open hss
 obtain ⟨sb, so, rfl, -, scs, hsr, rfl, -⟩ := hsel 0 (by simp)
 have hsx := rdn1 hsr
 simp only [Nat.zero_mul, Nat.add_zero, List.getElem_cons_zero] at hsx
 simp only [List.length_cons, List.length_nil, Nat.zero_add] at hsc ⊢
 simp (disch := omega) only [↓wD, wU, simprocAttr, cast1]
 refine hK _ _ ?_
 clear hK K
 have hE02 := hE01.trans hE2
 have hE12 : Ext H0 H2 := hE1.trans hE2
 have two : ∀ {HX : Hp}, Ext H0 HX → Own HX (H.size + 1) 0 2 := fun {HX} hX j hj => by
  rw [Nat.zero_add, hX.cell (H.size + 1) j (by omega), hc6 j hj, frz_block (hX.2 (H.size + 1) (by omega)), hf6]
  exact ⟨rfl, rfl⟩
 refine w_blk (w_loop (fun n' f H' => Ext H2 H' ∧ f 0 = .pointer (some ⟨p, 0, none⟩) ∧ f 4 = .pointer (some ⟨H.size, 0, none⟩) ∧ f 6 = .pointer (some ⟨H.size + 1, 0, none⟩) ∧ f 14 = .slice (some ⟨sb, so, none⟩) 1 sc ∧ f 15 = .int .i64 1 ∧ ((f 16 = .int .i64 0 ∧ n' = 1) ∨ (f 16 = .int .i64 1 ∧ n' = 0 ∧ ∀ x ∈ L, x.key = key → x.name = n))) 1 ⟨Ext.refl _, (by simp only [wL, Nat.reduceBEq]), (by simp only [wL, Nat.reduceBEq]), (by simp only [wL, Nat.reduceBEq]), (by simp only [wL, Nat.reduceBEq]), (by simp only [wL, Nat.reduceBEq]), .inl ⟨rfl, rfl⟩⟩ ?_)
 rintro n' f H' ⟨hE, f0, f4, f6, f14, f15, ⟨f16, rfl⟩ | ⟨f16, rfl, hno⟩⟩
 ·have h01 : ((0 : Int) < 1) = True := by simp
  have h01n : ((0 : Int) < ((1 : Nat) : Int)) = True := by simp
  have t0 : (0 : Int).toNat = 0 := rfl
  have hsx' := (hE.cell sb so (cell_lt hsx)).trans hsx
  refine w_reg fun K hK => ?_; simp (disch := omega) only [↓wD, wU, simprocAttr, f15, f16, h01]; refine hK _ _ ?_; clear hK K
  refine w_seq ?_
  refine wt ?_
  refine w_skip ?_
  (with_reducible repeat first | apply q_n | apply q_e | apply q_r | apply bq_n | apply bq_e | apply bq_r | apply bq_o rfl)
  refine w_seq (w_blk ?_)
  refine w_reg fun K hK => ?_; simp (disch := omega) only [↓wD, wU, simprocAttr, f14, f16, h01, h01n, hsx', t0, Nat.zero_lt_one]; refine hK _ _ ?_; clear hK K
  refine w_reg fun K hK => ?_
  simp (disch := omega) only [↓wD, wU, simprocAttr, f0]
  have hEA := hE02.trans hE
  refine w_call (Of_cl key (hT.ext hEA) hs hm) ?_
  rintro _ H3 ⟨hE3, x, cs, G2, rfl, he, -, hx⟩
  have he' := he
  obtain ⟨va, vr, ecs, ha, hr, hnm, hsk, hsv⟩ := he'
  obtain ⟨xa, ca, rfl, hca, -⟩ := ha.form
  obtain ⟨xr, cr, rfl, hcr, -⟩ := hr.form
  rw [ecs]
  simp (disch := omega) only [↓wD, wU, simprocAttr]
  refine hK _ _ ?_
  clear hK K
  have hEB : Ext H3 (H3.push (.cells cs.toArray 35)) := (Ext.refl _).push _
  have hr0 : rdn (H3.push (.cells cs.toArray 35)) H3.size 0 7 = some cs := by
   rw [rdn_new H3 cs 35 0 7 (by rw [he.len]; omega), List.drop_zero, List.take_of_length_le (by rw [he.len]; omega)]
  rw [← ecs]
  generalize H3.push (.cells cs.toArray 35) = H4 at hEB hr0 ⊢
  rw [ecs] at hr0
  obtain ⟨d0, d1, d2, d3, d4, d5, d6⟩ := rdn7 hr0
  have hEC : Ext H0 H4 := ((hE12.trans hE).trans hE3).trans hEB
  have cn0' := (hEC.cell H.size 0 (by omega)).trans cn0
  have cn1' := (hEC.cell H.size (0 + 1) (by omega)).trans cn1
  have hE2C : Ext H2 H4 := (hE.trans hE3).trans hEB
  have hEH : Ext H H4 := hE0.trans hEC
  have next : ∀ (g : Fr), g 0 = .pointer (some ⟨p, 0, none⟩) → g 4 = .pointer (some ⟨H.size, 0, none⟩) → g 6 = .pointer (some ⟨H.size + 1, 0, none⟩) → g 14 = .slice (some ⟨sb, so, none⟩) 1 sc → g 15 = .int .i64 1 → g 16 = .int .i64 0 → (∀ x ∈ L, x.key = key → x.name = n) → cwp Tryz.prog (.reg [O.s 35 (I.bin .add (.tmp 16) (.const (.int .i64 1))), O.s 16 (I.mv (.tmp 35))]) g H4 (fun e f' H' => e = .normal ∧ ∃ m, m < 1 ∧ Ext H2 H' ∧ f' 0 = .pointer (some ⟨p, 0, none⟩) ∧ f' 4 = .pointer (some ⟨H.size, 0, none⟩) ∧ f' 6 = .pointer (some ⟨H.size + 1, 0, none⟩) ∧ f' 14 = .slice (some ⟨sb, so, none⟩) 1 sc ∧ f' 15 = .int .i64 1 ∧ ((f' 16 = .int .i64 0 ∧ m = 1) ∨ (f' 16 = .int .i64 1 ∧ m = 0 ∧ ∀ x ∈ L, x.key = key → x.name = n))) := by
   intro g g0 g4 g6 g14 g15 g16 hn
   have hw1 : IntKind.i64.wrap (0 + 1) = 1 := by rw [wr64 (by omega) (by omega)]; rfl
   refine w_reg1 fun K hK => ?_; simp (disch := omega) only [↓wD, wU, simprocAttr, g16, hw1]; refine hK _ _ ?_; clear hK K
   exact ⟨rfl, 0, by decide, hE2C, (by simp only [wL, Nat.reduceBEq, g0]), (by simp only [wL, Nat.reduceBEq, g4]), (by simp only [wL, Nat.reduceBEq, g6]), (by simp only [wL, Nat.reduceBEq, g14]), (by simp only [wL, Nat.reduceBEq, g15]), .inr ⟨(by simp only [wL, Nat.reduceBEq]), rfl, hn⟩⟩
  have go : ∀ {c : C} {f : Fr} {H : Hp} {R : Ex → Fr → Hp → Prop} {N : Fr → Hp → Prop}, cwp Tryz.prog c f H (fun e f H => e = .normal ∧ N f H) → (∀ f H, N f H → R .normal f H) → cwp Tryz.prog c f H R := by
   intro c f H R N h hn
   refine w_mono ?_ h
   rintro e f H ⟨rfl, h⟩
   exact hn f H h
  cases hh : hasK L key with
  | false =>
   refine w_reg fun K hK => ?_; simp (disch := omega) only [↓wD, wU, simprocAttr]; refine hK _ _ ?_; clear hK K
   refine wf ?_
   refine w_skip ?_
   (with_reducible repeat first | apply q_n | apply q_e | apply q_r | apply bq_n | apply bq_e | apply bq_r | apply bq_o rfl)
   refine go (next _ (by simp only [wL, Nat.reduceBEq, f0]) (by simp only [wL, Nat.reduceBEq, f4]) (by simp only [wL, Nat.reduceBEq, f6]) (by simp only [wL, Nat.reduceBEq, f14]) (by simp only [wL, Nat.reduceBEq, f15]) (by simp only [wL, Nat.reduceBEq, f16]) fun y hy hyk => ?_) ?_
   ·have := hasK_iff.2 ⟨y, hy, hyk⟩
    rw [hh] at this; cases this
   ·intro f H h
    exact h
  | true =>
   rw [hh] at hx
   simp only [if_true] at hx
   by_cases hnm' : x.name = n
   ·have hq : (decide (x.name.client = n.client) && (decide (x.name.num = n.num) && true)) = true := by rw [hnm']; simp
    have hq' : (decide (x.name.client = n.client) && decide (x.name.num = n.num)) = true := by rw [hnm']; simp
    refine w_reg fun K hK => ?_; simp (disch := omega) only [↓wD, wU, simprocAttr, f4, d1, d2, cn0', cn1', leavesEq, leafEq, hq, hq']; refine hK _ _ ?_; clear hK K
    refine wf ?_
    refine w_skip ?_
    (with_reducible repeat first | apply q_n | apply q_e | apply q_r | apply bq_n | apply bq_e | apply bq_r | apply bq_o rfl)
    refine go (next _ (by simp only [wL, Nat.reduceBEq, f0]) (by simp only [wL, Nat.reduceBEq, f4]) (by simp only [wL, Nat.reduceBEq, f6]) (by simp only [wL, Nat.reduceBEq, f14]) (by simp only [wL, Nat.reduceBEq, f15]) (by simp only [wL, Nat.reduceBEq, f16]) fun y hy hyk => ?_) ?_
    ·rw [sorted_unique hs hy hx.1 (hyk.trans hx.2.symm)]; exact hnm'
    ·intro f H h
     exact h
   ·have hq' : (decide (x.name.client = n.client) && decide (x.name.num = n.num)) = false := by
     cases h : (decide (x.name.client = n.client) && decide (x.name.num = n.num)) with
     | false => rfl
     | true =>
      simp only [Bool.and_eq_true, decide_eq_true_eq] at h
      exact absurd (by cases hx1 : x.name; cases n; simp_all) hnm'
    have hq : (decide (x.name.client = n.client) && (decide (x.name.num = n.num) && true)) = false := by rw [Bool.and_true]; exact hq'
    refine w_reg fun K hK => ?_; simp (disch := omega) only [↓wD, wU, simprocAttr, f4, d1, d2, cn0', cn1', leavesEq, leafEq, hq, hq']; refine hK _ _ ?_; clear hK K
    refine wt ?_
    obtain ⟨H5, hw, hW⟩ := wrn_ok (H := H4) (b := H.size + 1) (o := 0) (l := [.int .i64 x.name.client, .int .i64 x.name.num]) (two hEC) (by intro v hv; simp at hv; rcases hv with rfl | rfl <;> rfl)
    have hr5 := hW.rdn_at
    have hr5' : rdn H5 (H.size + 1) 0 2 = some [.int .i64 x.name.client, .int .i64 x.name.num] := hr5
    obtain ⟨q0, q1⟩ := rdn2 hr5'
    refine w_reg fun K hK => ?_; simp (disch := omega) only [↓wD, wU, simprocAttr, f6, d1, d2, hw]; refine hK _ _ ?_; clear hK K
    refine w_ret ?_
    (with_reducible repeat first | apply q_n | apply q_e | apply q_r | apply bq_n | apply bq_e | apply bq_r | apply bq_o rfl)
    refine retG (v := .tuple #[.agg #[.int .i64 x.name.client, .int .i64 x.name.num], .bool true]) (by simp (disch := omega) only [resV, rvsV, rvV, oneOr, ↓wD, wU, simprocAttr, f6, rd2, q0, q1]) ?_
    refine ⟨hW.ext hEH (by omega), x.name, true, rfl, .inl ⟨rfl, x, hx.1, hx.2, hnm', rfl⟩⟩
 ·have h11 : ((1 : Int) < 1) = False := by simp
  refine w_reg fun K hK => ?_; simp (disch := omega) only [↓wD, wU, simprocAttr, f15, f16, h11]; refine hK _ _ ?_; clear hK K
  refine w_seq ?_
  refine wf ?_
  refine w_exit ?_
  (with_reducible repeat first | apply q_n | apply q_e | apply q_r | apply bq_n | apply bq_e | apply bq_r | apply bq_o rfl)
  obtain ⟨H5, hw, hW⟩ := wrn_ok (H := H') (b := H.size + 1) (o := 0) (l := [.int .i64 0, .int .i64 0]) (two (hE12.trans hE)) (by intro v hv; simp at hv; subst hv; rfl)
  have hr5 := hW.rdn_at
  have hr5' : rdn H5 (H.size + 1) 0 2 = some [.int .i64 0, .int .i64 0] := hr5
  obtain ⟨q0, q1⟩ := rdn2 hr5'
  refine w_reg fun K hK => ?_; simp (disch := omega) only [↓wD, wU, simprocAttr, f6, hw]; refine hK _ _ ?_; clear hK K
  refine w_ret ?_
  (with_reducible repeat first | apply q_n | apply q_e | apply q_r | apply bq_n | apply bq_e | apply bq_r | apply bq_o rfl)
  refine retG (v := .tuple #[.agg #[.int .i64 0, .int .i64 0], .bool false]) (by simp (disch := omega) only [resV, rvsV, rvV, oneOr, ↓wD, wU, simprocAttr, f6, rd2, q0, q1]) ?_
  exact ⟨hW.ext (hE02.trans hE) (by omega), ⟨0, 0⟩, false, rfl, .inr ⟨rfl, rfl, hno⟩⟩
end Go.WK
/-
 Tables that are made.
-/
namespace Go.WK
open Go Go.Proofs

theorem ElHd.lt {S : Nat → Prop} {H : Hp} {cs : List Value} {h : Hd} (e : ElHd S H cs h) : ElHd (fun x => S x ∧ x < H.size) H cs h := by
 obtain ⟨va, vr, e, h1, h2, h3⟩ := e
 exact ⟨va, vr, e, h1.lt (by decide), h2.lt (by decide), h3⟩
theorem HdSl.lt {S : Nat → Prop} {H : Hp} {v : Value} {l : List Hd} (h : HdSl S H v l) : HdSl (fun x => S x ∧ x < H.size) H v l := by
 refine SlP.mono (H' := H) (SlP.lt (by decide) h) (fun _ h => h) (fun _ _ _ => rfl) fun cs a _ he => he.lt

theorem made_cl {S : Nat → Prop} {H : Hp} {v : Value} {l : List Hd} (hv : HdSl S H v l) : Cl Tryz.prog 11 [v] H fun r H' => r = .pointer (some ⟨H.size, 0, none⟩) ∧ Ext H H' ∧ ∃ L M G v', Tab M G H' H.size L v' ∧ WF L ∧ ∀ x, M x ∨ G x → H.size ≤ x := by
 refine cl_of mixed c_watershedlaw16_made (Nat.le_of_ble_eq_true rfl) ?_
 simp only [fwp, ir_watershedlaw16_made, argF, Nat.reduceAdd]
 obtain ⟨a, c, rfl, hc, hl, hel⟩ := SlP.open hv.lt
 refine w_reg fun K hK => ?_; simp (disch := omega) only [↓wD, wU, simprocAttr]; refine hK _ _ ?_; clear hK K
 refine w_reg fun K hK => ?_
 simp (disch := omega) only [↓wD, wU, simprocAttr]
 refine w_call (New_cl) ?_
 rintro _ H1 ⟨rfl, hE1, hT1⟩
 simp (disch := omega) only [↓wD, wU, simprocAttr]
 refine hK _ _ ?_
 clear hK K
 refine w_seq (w_seq ?_)
 refine w_reg fun K hK => ?_; simp (disch := omega) only [↓wD, wU, simprocAttr]; refine hK _ _ ?_; clear hK K
 refine w_blk (w_loop (fun n f H' => Ext H H' ∧ f 0 = .slice a l.length c ∧ f 3 = .pointer (some ⟨H.size, 0, none⟩) ∧ ∃ (i : Nat), f 4 = .int .i64 i ∧ i ≤ l.length ∧ (∃ L M G v', Tab M G H' H.size L v' ∧ WF L ∧ ∀ x, M x ∨ G x → H.size ≤ x) ∧ n = l.length - i) _ ⟨hE1, (by simp only [wL, Nat.reduceBEq]), (by simp only [wL, Nat.reduceBEq]), 0, rfl, Nat.zero_le _, ⟨[], _, _, _, hT1, WF.nil, by simp⟩, rfl⟩ ?_)
 rintro n f H' ⟨hE, f0, f3, i, f4, hi, ⟨L, M, G, v', hT, hW, hlo⟩, rfl⟩
 refine w_seq (w_seq ?_)
 by_cases hil : i < l.length
 ·obtain ⟨b, o, rfl, hSb, cs, hcs, he⟩ := hel i hil
  have he1 := he.ext hE
  have hcs' := rdn_ext hE hcs
  have he' := he
  obtain ⟨va, vr, ecs, ha, hr, hnm, hsk, hsv⟩ := he'
  rw [ecs] at hcs'
  refine w_reg fun K hK => ?_; simp (disch := omega) only [↓wD, wU, simprocAttr, f0, f4, hil]; refine hK _ _ ?_; clear hK K
  refine wt ?_
  refine w_skip ?_
  (with_reducible repeat first | apply q_n | apply q_e | apply q_r | apply bq_n | apply bq_e | apply bq_r | apply bq_o rfl)
  refine w_seq (w_blk ?_)
  refine w_reg1 fun K hK => ?_
  simp (disch := omega) only [↓wD, wU, simprocAttr, f0, f3, f4, hil, hcs']
  rw [← ecs]
  have hp := cell_lt hT.c0
  have hE2 : Ext H' (H'.push (.cells cs.toArray 35)) := (Ext.refl _).push _
  refine w_call (Put_cl (hT.ext hE2) hW (he1.sl1 35) (fun x hx => by
     have hs := hE.size
     rcases hx with ⟨_, hx⟩ | hx
     ·exact ⟨fun hm => by have := hlo x (.inl hm); omega, by omega⟩
     ·exact ⟨fun hm => by have := hT.lt x (.inl hm); omega, by omega⟩)) ?_
  rintro _ H2 ⟨rfl, hk2, L2, M2, G2, v2, hW2, hT2, hGr, -⟩
  simp (disch := omega) only [↓wD, wU, simprocAttr]
  refine hK _ _ ?_
  clear hK K
  (with_reducible repeat first | apply q_n | apply q_e | apply q_r | apply bq_n | apply bq_e | apply bq_r | apply bq_o rfl)
  refine w_reg1 fun K hK => ?_; simp (disch := omega) only [↓wD, wU, simprocAttr, f4]; refine hK _ _ ?_; clear hK K
  (with_reducible repeat first | apply q_n | apply q_e | apply q_r | apply bq_n | apply bq_e | apply bq_r | apply bq_o rfl)
  have hs := hE.size
  have hsp : (H'.push (.cells cs.toArray 35)).size = H'.size + 1 := by simp
  rw [hsp] at hGr
  refine ⟨l.length - (i + 1), by omega, ⟨Nat.le_trans (hE.trans hE2).size hk2.1, fun x hx => ?_⟩, (by simp only [wL, Nat.reduceBEq, f0]), (by simp only [wL, Nat.reduceBEq, f3]), i + 1, (by simp only [wL, Nat.reduceBEq]), by omega, ⟨L2, M2, G2, v2, hT2, hW2, fun x hx => ?_⟩, rfl⟩
  ·rw [hk2.2 x (by omega) ⟨fun hm => by have := hlo x (.inl hm); omega, by omega⟩, (hE.trans hE2).2 x hx]
  ·rcases hx with hx | hx
   ·rcases hGr.1 x hx with h | h
    ·exact hlo x (.inl h)
    ·omega
   ·rcases hGr.2 x hx with h | h
    ·exact hlo x (.inr h)
    ·omega
 ·refine w_reg fun K hK => ?_; simp (disch := omega) only [↓wD, wU, simprocAttr, f0, f4, hil]; refine hK _ _ ?_; clear hK K
  refine wf ?_
  refine w_exit ?_
  (with_reducible repeat first | apply q_n | apply q_e | apply q_r | apply bq_n | apply bq_e | apply bq_r | apply bq_o rfl)
  refine w_reg fun K hK => ?_; simp (disch := omega) only [↓wD, wU, simprocAttr, f3]; refine hK _ _ ?_; clear hK K
  refine w_ret ?_; (with_reducible repeat first | apply q_n | apply q_e | apply q_r | apply bq_n | apply bq_e | apply bq_r | apply bq_o rfl); refine ret1 (by (try simp only [wL, Nat.reduceBEq]); rfl) ?_
  exact ⟨rfl, hE, L, M, G, v', hT, hW, hlo⟩

theorem i64_0 : I64 0 := ⟨by decide, by decide⟩
theorem i64_1 : I64 1 := ⟨by decide, by decide⟩
def plainH (key : ByteArray) (c : Int) : Hd := ⟨key, ⟨c, 1⟩, [⟨1, key, .empty, 0⟩], [⟨key, false, .empty⟩], false, .empty⟩
theorem plain_cl {H : Hp} (key : ByteArray) (c : Int) (hk : Sz key) (hc : I64 c) : Cl Tryz.prog 46 [.string key, .int .i64 c] H fun r H' => ∃ cs G, r = .agg cs.toArray ∧ ElHd G H' cs (plainH key c) ∧ (∀ x, G x → H.size ≤ x ∧ x < H'.size) ∧ Ext H H' := by
 refine cl_of mixed c_watershedlaw16_plain (Nat.le_of_ble_eq_true rfl) ?_
 simp only [fwp, ir_watershedlaw16_plain, argF, Nat.reduceAdd]
 refine w_reg fun K hK => ?_; simp (disch := omega) only [↓wD, wU, simprocAttr]; refine hK _ _ ?_; clear hK K
 refine w_reg fun K hK => ?_; simp (disch := omega) only [↓wD, wU, simprocAttr]; refine hK _ _ ?_; clear hK K
 refine w_ret ?_
 (with_reducible repeat first | apply q_n | apply q_e | apply q_r | apply bq_n | apply bq_e | apply bq_r | apply bq_o rfl)
 have r7 : rdn (((H.push (.cells #[.string key, .int .i64 c, .int .i64 1, .slice (some ⟨H.size + 1, 0, none⟩) 1 1, .slice (some ⟨H.size + 1 + 1, 0, none⟩) 1 1, .bool false, .string .empty] 35)).push (.cells #[.int .u8 1, .string key, .string .empty, .int .i64 0] 98)).push (.cells #[.string key, .bool false, .string .empty] 100)) H.size 0 7 = some [.string key, .int .i64 c, .int .i64 1, .slice (some ⟨H.size + 1, 0, none⟩) 1 1, .slice (some ⟨H.size + 1 + 1, 0, none⟩) 1 1, .bool false, .string .empty] :=
  rdn_ext (((Ext.refl _).push _).push _) (rdn_new H [_, _, _, _, _, _, _] 35 0 7 (Nat.le_refl _))
 have r4 : rdn (((H.push (.cells #[.string key, .int .i64 c, .int .i64 1, .slice (some ⟨H.size + 1, 0, none⟩) 1 1, .slice (some ⟨H.size + 1 + 1, 0, none⟩) 1 1, .bool false, .string .empty] 35)).push (.cells #[.int .u8 1, .string key, .string .empty, .int .i64 0] 98)).push (.cells #[.string key, .bool false, .string .empty] 100)) (H.size + 1) 0 4 = some [.int .u8 1, .string key, .string .empty, .int .i64 0] := by
  have := rdn_new (H.push (.cells #[.string key, .int .i64 c, .int .i64 1, .slice (some ⟨H.size + 1, 0, none⟩) 1 1, .slice (some ⟨H.size + 1 + 1, 0, none⟩) 1 1, .bool false, .string .empty] 35)) [.int .u8 1, .string key, .string .empty, .int .i64 0] 98 0 4 (Nat.le_refl _)
  rw [Array.size_push] at this
  exact rdn_ext ((Ext.refl _).push _) this
 have r3 : rdn (((H.push (.cells #[.string key, .int .i64 c, .int .i64 1, .slice (some ⟨H.size + 1, 0, none⟩) 1 1, .slice (some ⟨H.size + 1 + 1, 0, none⟩) 1 1, .bool false, .string .empty] 35)).push (.cells #[.int .u8 1, .string key, .string .empty, .int .i64 0] 98)).push (.cells #[.string key, .bool false, .string .empty] 100)) (H.size + 1 + 1) 0 3 = some [.string key, .bool false, .string .empty] := by
  have := rdn_new ((H.push (.cells #[.string key, .int .i64 c, .int .i64 1, .slice (some ⟨H.size + 1, 0, none⟩) 1 1, .slice (some ⟨H.size + 1 + 1, 0, none⟩) 1 1, .bool false, .string .empty] 35)).push (.cells #[.int .u8 1, .string key, .string .empty, .int .i64 0] 98)) [.string key, .bool false, .string .empty] 100 0 3 (Nat.le_refl _)
  rw [Array.size_push, Array.size_push] at this
  exact this
 have hEx : Ext H (((H.push (.cells #[.string key, .int .i64 c, .int .i64 1, .slice (some ⟨H.size + 1, 0, none⟩) 1 1, .slice (some ⟨H.size + 1 + 1, 0, none⟩) 1 1, .bool false, .string .empty] 35)).push (.cells #[.int .u8 1, .string key, .string .empty, .int .i64 0] 98)).push (.cells #[.string key, .bool false, .string .empty] 100)) := (((Ext.refl _).push _).push _).push _
 have hsz : (((H.push (.cells #[.string key, .int .i64 c, .int .i64 1, .slice (some ⟨H.size + 1, 0, none⟩) 1 1, .slice (some ⟨H.size + 1 + 1, 0, none⟩) 1 1, .bool false, .string .empty] 35)).push (.cells #[.int .u8 1, .string key, .string .empty, .int .i64 0] 98)).push (.cells #[.string key, .bool false, .string .empty] 100)).size = H.size + 3 := by simp
 generalize ((H.push (.cells #[.string key, .int .i64 c, .int .i64 1, .slice (some ⟨H.size + 1, 0, none⟩) 1 1, .slice (some ⟨H.size + 1 + 1, 0, none⟩) 1 1, .bool false, .string .empty] 35)).push (.cells #[.int .u8 1, .string key, .string .empty, .int .i64 0] 98)).push (.cells #[.string key, .bool false, .string .empty] 100) = HC at r7 r4 r3 hEx hsz ⊢
 obtain ⟨q0, q1, q2, q3, q4, q5, q6⟩ := rdn7 r7
 refine retG (v := .agg #[.string key, .int .i64 c, .int .i64 1, .slice (some ⟨H.size + 1, 0, none⟩) 1 1, .slice (some ⟨H.size + 1 + 1, 0, none⟩) 1 1, .bool false, .string .empty]) (by simp (disch := omega) only [resV, rvsV, rvV, oneOr, ↓wD, wU, simprocAttr, q0, q1, q2, q3, q4, q5, q6]) ?_
 have he0 : Sz ByteArray.empty := by unfold Sz big; decide
 refine ⟨_, fun x => H.size ≤ x ∧ x < H.size + 3, rfl, ⟨_, _, rfl, ⟨(by decide : (1 : Nat) ≤ big), .inr ⟨H.size + 1, 0, 1, rfl, Nat.le_refl _, fun i hi => ?_⟩⟩, ⟨(by decide : (1 : Nat) ≤ big), .inr ⟨H.size + 1 + 1, 0, 1, rfl, Nat.le_refl _, fun i hi => ?_⟩⟩, ⟨hc, i64_1⟩, hk, he0⟩, fun x hx => ⟨hx.1, by omega⟩, hEx⟩
 ·have hi0 : i = 0 := by simp [plainH] at hi; omega
  subst hi0
  exact ⟨⟨by omega, by omega⟩, _, by rw [Nat.zero_mul]; exact r4, rfl, by simp [plainH], i64_0, hk, he0⟩
 ·have hi0 : i = 0 := by simp [plainH] at hi; omega
  subst hi0
  exact ⟨⟨by omega, by omega⟩, _, by rw [Nat.zero_mul]; exact r3, rfl, hk, he0⟩
end Go.WK
/-
 Holds as bytes.
-/
namespace Go.WK
open Go Go.Proofs

theorem sl_block {α : Type} {El : List Value → α → Prop} {H : Hp} {b t : Nat} {l : List α} {g : α → Value} (hc : H[b]? = some (.cells (l.map g).toArray t)) (hE : ∀ a ∈ l, El [g a] a) (hl : l.length ≤ big) : SlP (fun x => x = b) H 1 El (.slice (some ⟨b, 0, none⟩) l.length l.length) l := by
 refine ⟨hl, .inr ⟨b, 0, l.length, rfl, Nat.le_refl _, fun i hi => ⟨rfl, [g l[i]], ?_, hE _ (List.getElem_mem _)⟩⟩⟩
 refine rdn_of rfl fun j hj => ?_
 have hj0 : j = 0 := by omega
 subst hj0
 simp only [cell, hc, Nat.zero_add, Nat.mul_one, Nat.add_zero, List.getElem?_toArray, List.getElem?_map, List.getElem?_eq_getElem hi, Option.map_some, List.getElem?_cons_zero]
/-- A call of a writer in a region: what it leaves. -/
theorem acP_wr {S F A M : Nat → Prop} {H H2 : Hp} {p : Nat} {sp : Bool} {bs : List UInt8} {k : (Nat → Prop) → Prop} (hF : F = fun x => M x ∨ x = p) (hS : ∀ x, S x → ¬ M x ∧ x ≠ p) (hp : p < H.size) (h : WrP M H p sp bs H2)
  (hk : ∀ M2 v2, Wr M2 H2 p sp bs v2 → (∀ x, M2 x → M x ∨ H.size ≤ x) → k (fun x => M2 x ∨ x = p)) : acP S F A H H2 k := by
 obtain ⟨hkeep, M2, v2, hW2, hM2⟩ := h
 subst hF
 refine ⟨fun x => M2 x ∨ x = p, ?_, ?_, hkeep.1, ?_, hk M2 v2 hW2 hM2⟩
 ·rintro x (hx | rfl)
  ·exact (hM2 x hx).imp .inl id
  ·exact .inl (.inr rfl)
 ·rintro x (hx | rfl)
  ·exact hW2.lt x hx
  ·exact Nat.lt_of_lt_of_le hp hkeep.1
 ·rintro x hx (⟨h1, -⟩ | h1)
  ·exact hkeep.2 x hx ⟨fun h => h1 (.inl h), fun h => h1 (.inr h)⟩
  ·exact hkeep.2 x hx (hS x h1)
def absI (n : Int) : Int := max n (IntKind.i64.wrap (0 - n))
theorem absI_ok {n : Int} (h : I64 n) : I64 (absI n) := by
 obtain ⟨h1, h2⟩ := h
 unfold absI
 by_cases h0 : n = -9223372036854775808
 ·subst h0; exact ⟨by decide, by decide⟩
 ·rw [wr64 (by omega) (by omega)]; exact ⟨by omega, by omega⟩
def actE (a : Ac) : List UInt8 := numsE [a.kind] ++ textE a.value ++ [flagE (decide (a.num < 0))] ++ numsE [absI a.num]
def readE (r : Rd) : List UInt8 := [flagE r.is] ++ textE r.value
def holdE (h : Hd) : List UInt8 := textE h.key ++ numsE [h.name.client, h.name.num, (h.acts.length : Int)] ++ h.acts.flatMap actE ++ numsE [(h.reads.length : Int)] ++ h.reads.flatMap readE ++ [flagE h.put] ++ textE h.value
def actOk (a : Ac) : Bool := numOk a.kind && numOk (absI a.num)
def holdOk (h : Hd) : Bool := numOk h.name.client && numOk h.name.num && h.acts.all actOk
/-- What a hold's bytes are at most. -/
def actW (a : Ac) : Nat := a.value.size + 40
def readW (r : Rd) : Nat := r.value.size + 20
def holdW (h : Hd) : Nat := h.key.size + h.value.size + 100 + (h.acts.map actW).sum + (h.reads.map readW).sum
theorem actE_len {a : Ac} (h : Sz a.value) : (actE a).length ≤ actW a := by
 have h1 := numsE_len [a.kind]
 have h2 := textE_len _ h
 have h3 := numsE_len [absI a.num]
 simp only [actE, actW, List.length_append, List.length_cons, List.length_nil] at h1 h2 h3 ⊢; omega
theorem readE_len {r : Rd} (h : Sz r.value) : (readE r).length ≤ readW r := by
 have h2 := textE_len _ h
 simp only [readE, readW, List.length_append, List.length_cons, List.length_nil] at h2 ⊢; omega
theorem flat_le {α : Type} {e : α → List UInt8} {w : α → Nat} : ∀ {l : List α}, (∀ a ∈ l, (e a).length ≤ w a) → ∀ i (hi : i < l.length), ((l.take i).flatMap e).length + w l[i] ≤ (l.map w).sum
 | a :: l, h, 0, _ => by simp
 | a :: l, h, i + 1, hi => by
  have := flat_le (l := l) (fun a ha => h a (by simp [ha])) i (by simpa using hi)
  have h0 := h a (by simp)
  simp only [List.take_succ_cons, List.flatMap_cons, List.length_append, List.map_cons, List.sum_cons, List.getElem_cons_succ]; omega
theorem flat_all {α : Type} {e : α → List UInt8} {w : α → Nat} : ∀ {l : List α}, (∀ a ∈ l, (e a).length ≤ w a) → (l.flatMap e).length ≤ (l.map w).sum
 | [], _ => by simp
 | a :: l, h => by
  have := flat_all (l := l) (fun a ha => h a (by simp [ha]))
  have h0 := h a (by simp)
  simp only [List.flatMap_cons, List.length_append, List.map_cons, List.sum_cons]; omega
theorem mx2 (a b : Int) : maxI [.int .i64 a, .int .i64 b] = some (.int .i64 (max a b)) := by
 simp only [maxI]
 congr 2
 by_cases h : b > a
 ·rw [if_pos h]; omega
 ·rw [if_neg h]; omega
theorem snoc_flat {α : Type} (e : α → List UInt8) (l : List α) (x : α) : (l ++ [x]).flatMap e = l.flatMap e ++ e x := by simp

theorem WrP.pre {M : Nat → Prop} {A B C : Hp} {p : Nat} {sp : Bool} {bs : List UInt8} (hE : Ext A B) (h : WrP M B p sp bs C) : WrP M A p sp bs C := by
 obtain ⟨hk, M2, v2, hW2, hM2⟩ := h
 refine ⟨⟨Nat.le_trans hE.1 hk.1, fun b hb hS => by rw [hk.2 b (Nat.lt_of_lt_of_le hb hE.1) hS, hE.2 b hb]⟩, M2, v2, hW2, fun x hx => ?_⟩
 have := hE.1
 rcases hM2 x hx with h | h
 ·exact .inl h
 ·exact .inr (by omega)
theorem one_str {H : Hp} {b t : Nat} {s : ByteArray} (hc : H[b]? = some (.cells #[.string s] t)) (hs : Sz s) : StrSl (fun x => x = b) H (.slice (some ⟨b, 0, none⟩) 1 1) [s] :=
 sl_block (l := [s]) (g := fun x => .string x) hc (fun a ha => by simp at ha; subst ha; exact ⟨rfl, hs⟩) (by simp; decide)
theorem one_int {H : Hp} {b t : Nat} {n : Int} (hc : H[b]? = some (.cells #[.int .i64 n] t)) (hn : I64 n) : ISl (fun x => x = b) H (.slice (some ⟨b, 0, none⟩) 1 1) [n] :=
 sl_block (l := [n]) (g := fun x => .int .i64 x) hc (fun a ha => by simp at ha; subst ha; exact ⟨rfl, hn⟩) (by simp; decide)
theorem one_flag {H : Hp} {b t : Nat} {n : Bool} (hc : H[b]? = some (.cells #[.bool n] t)) : FSl (fun x => x = b) H (.slice (some ⟨b, 0, none⟩) 1 1) [n] :=
 sl_block (l := [n]) (g := fun x => .bool x) hc (fun a ha => rfl) (by simp; decide)
theorem ints3 {H : Hp} {b t : Nat} {n m k : Int} (hc : H[b]? = some (.cells #[.int .i64 n, .int .i64 m, .int .i64 k] t)) (hn : I64 n) (hm : I64 m) (hk : I64 k) : ISl (fun x => x = b) H (.slice (some ⟨b, 0, none⟩) 3 3) [n, m, k] :=
 sl_block (l := [n, m, k]) (g := fun x => .int .i64 x) hc (fun a ha => by
  simp at ha
  rcases ha with rfl | rfl | rfl
  ·exact ⟨rfl, hn⟩
  ·exact ⟨rfl, hm⟩
  ·exact ⟨rfl, hk⟩) (by simp; decide)
theorem nlen_ok {n : Nat} (h : n ≤ 140737488355328) : I64 (n : Int) ∧ numOk (n : Int) = true := by
 refine ⟨⟨by omega, by omega⟩, ?_⟩
 simp only [numOk, Bool.and_eq_true, decide_eq_true_eq]; omega

/-- From one writing to the next one, blocks having been made between. -/
theorem WrP.next {M M1 : Nat → Prop} {A B B' C : Hp} {p : Nat} {sp sp' : Bool} {bs bs' : List UInt8} (hp : p < A.size) (hlt : ∀ x, M x → x < A.size) (h : WrP M A p sp bs B) (hM1 : ∀ x, M1 x → M x ∨ A.size ≤ x) (hE : Ext B B') (k : WrP M1 B' p sp' bs' C) : WrP M A p sp' bs' C :=
 WrP.trans hp hlt h.1 hM1 (WrP.pre hE k)
theorem num_abs (n : Int) : maxI [.int .i64 n, .int .i64 (IntKind.i64.wrap (0 - n))] = some (.int .i64 (absI n)) := mx2 _ _

set_option maxHeartbeats 8000000 in
theorem Write_cl {M S : Nat → Prop} {H : Hp} {p : Nat} {sp : Bool} {bs : List UInt8} {v u : Value} {l : List Hd} (hW : Wr M H p sp bs v) (hu : HdSl S H u l) (hS : ∀ x, S x → ¬ M x ∧ x ≠ p) (hl : bs.length + (l.map holdW).sum + 100 ≤ 140737488355328) :
  Cl Tryz.prog 20 [.pointer (some ⟨p, 0, none⟩), u] H fun r H' => r = .pointer (some ⟨p, 0, none⟩) ∧ WrP M H p (sp || !l.all holdOk) (bs ++ numsE [(l.length : Int)] ++ l.flatMap holdE) H' := by
 refine cl_of mixed c_holds_Write (Nat.le_of_ble_eq_true rfl) ?_
 simp only [fwp, ir_holds_Write, argF, Nat.reduceAdd]
 obtain ⟨a, c, rfl, hc, hll, hel⟩ := SlP.open hu.lt
 have hp := cell_lt hW.c0
 refine w_reg fun K hK => ?_; simp (disch := omega) only [↓wD, wU, simprocAttr]; refine hK _ _ ?_; clear hK K
 refine w_reg fun K hK => ?_
 simp (disch := omega) only [↓wD, wU, simprocAttr]
 have hE0 : Ext H (H.push (.cells #[.int .i64 l.length] 3)) := (Ext.refl _).push _
 have hI0 : ISl (fun x => x = H.size) (H.push (.cells #[.int .i64 l.length] 3)) (.slice (some ⟨H.size, 0, none⟩) 1 1) [(l.length : Int)] := sl_block (l := [(l.length : Int)]) (g := fun x => .int .i64 x) (t := 3) (by simp) (fun x hx => ⟨rfl, by simp at hx; subst hx; exact ⟨by omega, by omega⟩⟩) (by simp; decide)
 refine w_call (Numbers_cl (hW.ext hE0) hI0 (fun x hx => ⟨fun hm => by have := hW.lt x hm; omega, by omega⟩) (by simp; omega)) ?_
 rintro _ H0 ⟨rfl, hk0, M0, v0, hW0, hM0⟩
 simp (disch := omega) only [↓wD, wU, simprocAttr]
 refine hK _ _ ?_
 clear hK K
 have hP0 : WrP M H p sp (bs ++ numsE [(l.length : Int)]) H0 := by
  have e : (sp || ![(l.length : Int)].all numOk) = sp := by simp [(nlen_ok hll).2]
  rw [e] at hW0
  exact WrP.pre hE0 ⟨hk0, M0, v0, hW0, hM0⟩
 clear hk0 hW0 hM0 hI0
 generalize hB0 : bs ++ numsE [(l.length : Int)] = B0 at hP0 ⊢
 have hB0l : B0.length ≤ bs.length + 9 := by
  subst hB0
  have := numsE_len [(l.length : Int)]
  simp only [List.length_append, List.length_cons, List.length_nil] at this ⊢; omega
 clear hB0
 refine w_seq (w_seq ?_)
 refine w_reg fun K hK => ?_; simp (disch := omega) only [↓wD, wU, simprocAttr]; refine hK _ _ ?_; clear hK K
 have hwl : ∀ h ∈ l, (holdE h).length ≤ holdW h := by
  intro h hh
  obtain ⟨i, hi, rfl⟩ := List.getElem_of_mem hh
  obtain ⟨_, _, -, -, cs, -, va, vr, -, ha, hr, -, hk, hv⟩ := hel i hi
  obtain ⟨_, _, -, -, -, hae⟩ := SlP.open ha
  obtain ⟨_, _, -, -, -, hre⟩ := SlP.open hr
  have e1 := textE_len _ hk
  have e2 := textE_len _ hv
  have e3 := numsE_len [(l[i]).name.client, (l[i]).name.num, ((l[i]).acts.length : Int)]
  have e4 := numsE_len [((l[i]).reads.length : Int)]
  have e5 := flat_all (e := actE) (w := actW) (l := (l[i]).acts) fun a ha => by
   obtain ⟨j, hj, rfl⟩ := List.getElem_of_mem ha
   obtain ⟨_, _, -, -, _, -, -, -, -, -, hz⟩ := hae j hj
   exact actE_len hz
  have e6 := flat_all (e := readE) (w := readW) (l := (l[i]).reads) fun a ha => by
   obtain ⟨j, hj, rfl⟩ := List.getElem_of_mem ha
   obtain ⟨_, _, -, -, _, -, -, -, hz⟩ := hre j hj
   exact readE_len hz
  simp only [holdE, holdW, List.length_append, List.length_cons, List.length_nil] at e3 e4 e5 e6 ⊢
  omega
 refine w_blk (w_loop (fun n' f H' => f 0 = .pointer (some ⟨p, 0, none⟩) ∧ f 16 = .slice a l.length c ∧ f 17 = .int .i64 l.length ∧ ∃ i : Nat, f 18 = .int .i64 i ∧ i ≤ l.length ∧ n' = l.length - i ∧ WrP M H p (sp || !(l.take i).all holdOk) (B0 ++ (l.take i).flatMap holdE) H') l.length ⟨(by simp only [wL, Nat.reduceBEq]), (by simp only [wL, Nat.reduceBEq]), (by simp only [wL, Nat.reduceBEq]), 0, (by simp only [wL, Nat.reduceBEq]; rfl), Nat.zero_le _, rfl, by simpa using hP0⟩ ?_)
 rintro n' f H' ⟨f0, f16, f17, i, f18, hi, rfl, hk, M', v', hW', hM'⟩
 by_cases hil : i < l.length
 ·obtain ⟨b, o, rfl, ⟨hSb, hbl⟩, cs, hcs, he⟩ := hel i hil
  have hSk : ∀ x, S x ∧ x < H.size → x < H.size → H'[x]? = H[x]? := fun x hx hx' => hk.2 x hx' (hS x hx.1)
  have hcs' := rdn_block (hSk b ⟨hSb, hbl⟩ hbl) hcs
  have he1 : ElHd (fun x => S x ∧ x < H.size) H' cs l[i] := he.mono (fun _ h => h) hSk
  have hSM : ∀ x, S x ∧ x < H.size → ¬ M' x ∧ x ≠ p := fun x hx => ⟨fun hm => (hM' x hm).elim (hS x hx.1).1 (by omega), (hS x hx.1).2⟩
  have htake : l.take (i + 1) = l.take i ++ [l[i]] := by
   rw [List.take_add_one, List.getElem?_eq_getElem hil]; rfl
  have hroom := flat_le (e := holdE) (w := holdW) hwl i hil
  have hsH := hk.1
  obtain ⟨va, vr, ecs, ha, hr, hnm, hkey, hval⟩ := he1
  obtain ⟨aa, aac, rfl, haac, -⟩ := ha.form
  obtain ⟨ra, rac, rfl, hrac, -⟩ := hr.form
  rw [ecs] at hcs'
  obtain ⟨c0, c1, c2, c3, c4, c5, c6⟩ := rdn7 hcs'
  refine w_reg fun K hK => ?_; simp (disch := omega) only [↓wD, wU, simprocAttr, f17, f18, hil]; refine hK _ _ ?_; clear hK K
  refine w_seq ?_
  refine wt ?_
  refine w_skip ?_
  (with_reducible repeat first | apply q_n | apply q_e | apply q_r | apply bq_n | apply bq_e | apply bq_r | apply bq_o rfl)
  refine w_seq (w_blk ?_)
  refine w_reg fun K hK => ?_; simp (disch := omega) only [↓wD, wU, simprocAttr, f16, f18, hil, c0, c1, c2, c3, c4, c5, c6]; refine hK _ _ ?_; clear hK K
  rw [← ecs]
  have hEc : Ext H' (H'.push (.cells cs.toArray 35)) := (Ext.refl _).push _
  have hb6 : H'.size < (H'.push (.cells cs.toArray 35)).size := by simp
  have hr6 : rdn (H'.push (.cells cs.toArray 35)) H'.size 0 7 = some cs := by
   rw [rdn_new H' cs 35 0 7 (by rw [ecs]; exact Nat.le_refl _), ecs]; rfl
  generalize H'.push (.cells cs.toArray 35) = Hc at hEc hb6 hr6 ⊢
  obtain ⟨B6, hB6⟩ : ∃ B6, B6 = H'.size := ⟨_, rfl⟩
  rw [← hB6] at hb6 hr6 ⊢
  have hb6M : ¬ M' B6 ∧ B6 ≠ p := ⟨fun hm => by have := hW'.lt _ hm; omega, by have := cell_lt hW'.c0; omega⟩
  have hWc := hW'.ext hEc
  have hpc := cell_lt hWc.c0
  -- what stays, whatever has been written since
  have stab : ∀ {sp' : Bool} {bs' : List UInt8} {H'' : Hp}, WrP M' Hc p sp' bs' H'' → rdn H'' B6 0 7 = some cs ∧ AcSl (fun x => S x ∧ x < H.size) H'' (.slice aa (l[i]).acts.length aac) (l[i]).acts ∧ RdSl (fun x => S x ∧ x < H.size) H'' (.slice ra (l[i]).reads.length rac) (l[i]).reads := by
   intro sp' bs' H'' hP
   have hkS : ∀ x, S x ∧ x < H.size → x < H'.size → H''[x]? = H'[x]? := fun x hx hx' => by
    rw [hP.1.2 x (by omega) (hSM x hx), hEc.2 x hx']
   exact ⟨rdn_block (hP.1.2 _ hb6 hb6M) hr6, ha.mono (fun _ h => h) hkS fun _ _ _ h => h, hr.mono (fun _ h => h) hkS fun _ _ _ h => h⟩
  generalize hsp : (sp || !(l.take i).all holdOk) = spi at hW' hWc
  generalize hbs : B0 ++ (l.take i).flatMap holdE = bsi at hW' hWc
  have hbsl : bsi.length + holdW l[i] + 20 ≤ 140737488355328 := by
   subst hbs; rw [List.length_append]; omega
  have hle1 := textE_len _ hkey
  have hszk : (l[i]).key.size ≤ holdW l[i] := by unfold holdW; omega
  have hall : (l[i]).acts.length ≤ 140737488355328 := ha.1
  have hrll : (l[i]).reads.length ≤ 140737488355328 := hr.1
  -- the key, the name, how many acts
  obtain ⟨d0, d1, d2, d3, d4, d5, d6⟩ := rdn7 (ecs ▸ hr6)
  simp only [Nat.zero_add] at d0 d1 d2 d3 d4 d5 d6
  refine w_seq ?_
  refine w_alc (fun x => x = B6) (fun x => M' x ∨ x = p) (fun x hx => hx.elim (hWc.lt x) fun e => e ▸ hpc) fun K hK => ?_
  simp (disch := omega) only [↓a_nil, ↓a_st, ↓a_new, ↓a_box, ↓a_bsl, ↓a_ac, ↓a_ft, ↓a_ff, p_nil, p_new, p_box, p_bsl, ↓ow_s, ↓ow_e, ↓ow_g, ↓l_nil, ↓l_f, ↓l_t, ↓o_s, ↓o_e, ↓o_g, ↓o_ge, ↓k_ld, ↓k_ldn, isemS, ↓wD, wU, simprocAttr, f0, d0, d1, d2, d3]
  refine w_al fun b1 H1 hE1 hnb1 hbb1 hFb1 hAb1 hcb1 => ?_
  simp (disch := omega) only [↓a_nil, ↓a_st, ↓a_new, ↓a_box, ↓a_bsl, ↓a_ac, ↓a_ft, ↓a_ff, p_nil, p_new, p_box, p_bsl, ↓ow_s, ↓ow_e, ↓ow_g, ↓l_nil, ↓l_f, ↓l_t, ↓o_s, ↓o_e, ↓o_g, ↓o_ge, ↓k_ld, ↓k_ldn, isemS, ↓wD, wU, simprocAttr, f0]
  refine w_ac fun H2 hE2 => ?_
  simp (disch := omega) only [↓a_nil, ↓a_st, ↓a_new, ↓a_box, ↓a_bsl, ↓a_ac, ↓a_ft, ↓a_ff, p_nil, p_new, p_box, p_bsl, ↓ow_s, ↓ow_e, ↓ow_g, ↓l_nil, ↓l_f, ↓l_t, ↓o_s, ↓o_e, ↓o_g, ↓o_ge, ↓k_ld, ↓k_ldn, isemS, ↓wD, wU, simprocAttr, f0]
  have hEc2 := hE1.trans hE2
  have hF1 : ¬ M' b1 ∧ b1 ≠ p := ⟨fun h => hFb1 (.inl h), fun h => hFb1 (.inr h)⟩
  refine w_call (Texts_cl (hWc.ext hEc2) (one_str ((hE2.2 b1 hbb1).trans hcb1) hkey) (fun x hx => by subst hx; exact hF1) (by simp [szs]; omega)) ?_
  rintro _ H3 ⟨rfl, hP3⟩
  simp (disch := omega) only [↓a_nil, ↓a_st, ↓a_new, ↓a_box, ↓a_bsl, ↓a_ac, ↓a_ft, ↓a_ff, p_nil, p_new, p_box, p_bsl, ↓ow_s, ↓ow_e, ↓ow_g, ↓l_nil, ↓l_f, ↓l_t, ↓o_s, ↓o_e, ↓o_g, ↓o_ge, ↓k_ld, ↓k_ldn, isemS, ↓wD, wU, simprocAttr]
  have hpc2 := Nat.lt_of_lt_of_le hpc hEc2.1
  refine acP_wr rfl (fun x hx => by subst hx; exact hb6M) hpc2 hP3 fun M3 v3 hW3 hM3 => ?_
  have hPc3 := WrP.pre hEc2 hP3
  have hM3c : ∀ x, M3 x → M' x ∨ Hc.size ≤ x := fun x hx => (hM3 x hx).imp id fun h => Nat.le_trans hEc2.1 h
  refine w_al fun b2 H4 hE4 hnb2 hbb2 hFb2 hAb2 hcb2 => ?_
  simp (disch := omega) only [↓a_nil, ↓a_st, ↓a_new, ↓a_box, ↓a_bsl, ↓a_ac, ↓a_ft, ↓a_ff, p_nil, p_new, p_box, p_bsl, ↓ow_s, ↓ow_e, ↓ow_g, ↓l_nil, ↓l_f, ↓l_t, ↓o_s, ↓o_e, ↓o_g, ↓o_ge, ↓k_ld, ↓k_ldn, isemS, ↓wD, wU, simprocAttr]
  have hF2 : ¬ M3 b2 ∧ b2 ≠ p := ⟨fun h => hFb2 (.inl h), fun h => hFb2 (.inr h)⟩
  have hlen3 : (bsi ++ [(l[i]).key].flatMap textE).length ≤ bsi.length + (l[i]).key.size + 9 := by simp; omega
  have hszw : (l[i]).key.size + (l[i]).value.size + 100 + ((l[i]).acts.map actW).sum + ((l[i]).reads.map readW).sum = holdW l[i] := rfl
  refine w_call (Numbers_cl (hW3.ext hE4) (ints3 hcb2 hnm.1 hnm.2 (nlen_ok hall).1) (fun x hx => by subst hx; exact hF2) (by simp only [List.length_cons, List.length_nil]; omega)) ?_
  rintro _ H5 ⟨rfl, hP5⟩
  simp (disch := omega) only [↓a_nil, ↓a_st, ↓a_new, ↓a_box, ↓a_bsl, ↓a_ac, ↓a_ft, ↓a_ff, p_nil, p_new, p_box, p_bsl, ↓ow_s, ↓ow_e, ↓ow_g, ↓l_nil, ↓l_f, ↓l_t, ↓o_s, ↓o_e, ↓o_g, ↓o_ge, ↓k_ld, ↓k_ldn, isemS, ↓wD, wU, simprocAttr]
  have hs24 : B6 < H4.size := by have h1 := hEc2.1; have h2 := hP3.1.1; have h3 := hE4.1; omega
  have hb6M3 : ¬ M3 B6 ∧ B6 ≠ p := ⟨fun hm => (hM3c _ hm).elim hb6M.1 (by omega), hb6M.2⟩
  refine ⟨⟨hP5.1.1, fun x hx hs => by subst hs; exact hP5.1.2 _ hx hb6M3⟩, ?_⟩
  refine hK _ _ ?_
  clear hK K
  have hPc5 := WrP.next hpc hWc.lt hPc3 hM3c hE4 hP5
  obtain ⟨sp5, hsp5, bs5, hbs5, hPc5⟩ : ∃ sp5, sp5 = (spi || !(numOk (l[i]).name.client && numOk (l[i]).name.num)) ∧ ∃ bs5, bs5 = bsi ++ textE (l[i]).key ++ numsE [(l[i]).name.client, (l[i]).name.num, ((l[i]).acts.length : Int)] ∧ WrP M' Hc p sp5 bs5 H5 := by
   refine ⟨_, rfl, _, rfl, ?_⟩
   have e1 : (spi || ![(l[i]).name.client, (l[i]).name.num, ((l[i]).acts.length : Int)].all numOk) = (spi || !(numOk (l[i]).name.client && numOk (l[i]).name.num)) := by simp [(nlen_ok hall).2]
   have e2 : bsi ++ [(l[i]).key].flatMap textE = bsi ++ textE (l[i]).key := by simp
   rw [e1, e2] at hPc5
   exact hPc5
  have hbs5l : bs5.length + (l[i]).value.size + 60 + ((l[i]).acts.map actW).sum + ((l[i]).reads.map readW).sum ≤ 140737488355328 := by
   subst hbs5
   have := numsE_len [(l[i]).name.client, (l[i]).name.num, ((l[i]).acts.length : Int)]
   simp only [List.length_append, List.length_cons, List.length_nil] at this ⊢
   omega
  clear hPc3 hP3 hP5 hW3
  obtain ⟨e0, e1, e2, e3, e4, e5, e6⟩ := rdn7 (ecs ▸ (stab hPc5).1)
  simp only [Nat.zero_add] at e0 e1 e2 e3 e4 e5 e6
  -- the acts
  have hawl : ∀ a ∈ (l[i]).acts, (actE a).length ≤ actW a := by
   obtain ⟨_, _, -, -, -, hae⟩ := SlP.open ha
   intro a ha
   obtain ⟨j, hj, rfl⟩ := List.getElem_of_mem ha
   obtain ⟨_, _, -, -, _, -, -, -, -, -, hz⟩ := hae j hj
   exact actE_len hz
  refine w_seq (w_seq ?_)
  refine w_reg fun K hK => ?_; simp (disch := omega) only [↓wD, wU, simprocAttr, e3]; refine hK _ _ ?_; clear hK K
  refine w_blk (w_loop (fun n' f H' => f 0 = .pointer (some ⟨p, 0, none⟩) ∧ f 6 = .pointer (some ⟨B6, 0, none⟩) ∧ f 16 = .slice (some ⟨b, o, none⟩) l.length c ∧ f 17 = .int .i64 l.length ∧ f 18 = .int .i64 i ∧ f 39 = .slice aa (l[i]).acts.length aac ∧ f 40 = .int .i64 (l[i]).acts.length ∧ ∃ k : Nat, f 41 = .int .i64 k ∧ k ≤ (l[i]).acts.length ∧ n' = (l[i]).acts.length - k ∧ WrP M' Hc p (sp5 || !((l[i]).acts.take k).all actOk) (bs5 ++ ((l[i]).acts.take k).flatMap actE) H') (l[i]).acts.length ⟨(by simp only [wL, Nat.reduceBEq, f0]), (by simp only [wL, Nat.reduceBEq]), (by simp only [wL, Nat.reduceBEq, f16]), (by simp only [wL, Nat.reduceBEq, f17]), (by simp only [wL, Nat.reduceBEq, f18]), (by simp only [wL, Nat.reduceBEq]), (by simp only [wL, Nat.reduceBEq]), 0, (by simp only [wL, Nat.reduceBEq]; rfl), Nat.zero_le _, rfl, by simpa using hPc5⟩ ?_)
  rintro n' g HA ⟨g0, g6, g16, g17, g18, g39, g40, k, g41, hk4, rfl, hPA⟩
  by_cases hkl : k < (l[i]).acts.length
  ·obtain ⟨-, hactsA, -⟩ := stab hPA
   obtain ⟨aa', aac', eaa, -, -, hae⟩ := SlP.open hactsA
   obtain ⟨rfl, -, -⟩ := Value.slice.inj eaa
   obtain ⟨ab, ao, rfl, hSa, acs, hacs, eac, hkb, hnb, hkz, hvz⟩ := hae k hkl
   have hacs' := hacs
   rw [eac] at hacs'
   obtain ⟨q0, q1, q2, q3⟩ := rdn4 hacs'
   have hroomA := flat_le (e := actE) (w := actW) hawl k hkl
   have htakeA : (l[i]).acts.take (k + 1) = (l[i]).acts.take k ++ [(l[i]).acts[k]] := by
    rw [List.take_add_one, List.getElem?_eq_getElem hkl]; rfl
   obtain ⟨hkA, MA, vA, hWA, hMA⟩ := hPA
   refine w_reg fun K hK => ?_; simp (disch := omega) only [↓wD, wU, simprocAttr, g40, g41, hkl]; refine hK _ _ ?_; clear hK K
   refine w_seq ?_
   refine wt ?_
   refine w_skip ?_
   (with_reducible repeat first | apply q_n | apply q_e | apply q_r | apply bq_n | apply bq_e | apply bq_r | apply bq_o rfl)
   refine w_seq (w_blk ?_)
   refine w_reg fun K hK => ?_; simp (disch := omega) only [↓wD, wU, simprocAttr, g39, g41, hkl, q0, q1, q2, q3]; refine hK _ _ ?_; clear hK K
   rw [← eac]
   have hEd : Ext HA (HA.push (.cells acs.toArray 98)) := (Ext.refl _).push _
   have hb8 : HA.size < (HA.push (.cells acs.toArray 98)).size := by simp
   have hr8 : rdn (HA.push (.cells acs.toArray 98)) HA.size 0 4 = some acs := by
    rw [rdn_new HA acs 98 0 4 (by rw [eac]; exact Nat.le_refl _), eac]; rfl
   generalize HA.push (.cells acs.toArray 98) = Hd at hEd hb8 hr8 ⊢
   have hWd := hWA.ext hEd
   have hpA := cell_lt hWA.c0
   have hpd := cell_lt hWd.c0
   have hb8M : ¬ MA HA.size ∧ HA.size ≠ p := ⟨fun hm => by have := hWA.lt _ hm; omega, by omega⟩
   rw [eac] at hr8
   obtain ⟨u0, u1, u2, u3⟩ := rdn4 hr8
   simp only [Nat.zero_add] at u0 u1 u2 u3
   have hck : IntKind.i64.wrap ((l[i]).acts[k]).kind = ((l[i]).acts[k]).kind := wr64 (by omega) (by omega)
   have hkI : I64 ((l[i]).acts[k]).kind := ⟨by omega, by omega⟩
   have hvz' : ((l[i]).acts[k]).value.size ≤ 140737488355328 := hvz
   have hwA : actW (l[i]).acts[k] = ((l[i]).acts[k]).value.size + 40 := rfl
   have hlA : (bs5 ++ ((l[i]).acts.take k).flatMap actE).length + ((l[i]).acts[k]).value.size + 60 ≤ 140737488355328 := by
    rw [List.length_append]; omega
   generalize hspA : (sp5 || !((l[i]).acts.take k).all actOk) = spA at hWA hWd
   generalize hbsA : bs5 ++ ((l[i]).acts.take k).flatMap actE = bsA at hWA hWd hlA
   refine w_alc1 (fun x => x = HA.size) (fun x => MA x ∨ x = p) (fun x hx => hx.elim (hWd.lt x) fun e => e ▸ hpd) fun K hK => ?_
   simp (disch := omega) only [↓a_nil, ↓a_st, ↓a_new, ↓a_box, ↓a_bsl, ↓a_ac, ↓a_ft, ↓a_ff, p_nil, p_new, p_box, p_bsl, ↓ow_s, ↓ow_e, ↓ow_g, ↓l_nil, ↓l_f, ↓l_t, ↓o_s, ↓o_e, ↓o_g, ↓o_ge, ↓k_ld, ↓k_ldn, isemS, ↓wD, wU, simprocAttr, g0, u0, u2, u3, hck, num_abs]
   refine w_al fun y1 G1 gE1 hny1 hby1 hFy1 hAy1 hcy1 => ?_
   simp (disch := omega) only [↓a_nil, ↓a_st, ↓a_new, ↓a_box, ↓a_bsl, ↓a_ac, ↓a_ft, ↓a_ff, p_nil, p_new, p_box, p_bsl, ↓ow_s, ↓ow_e, ↓ow_g, ↓l_nil, ↓l_f, ↓l_t, ↓o_s, ↓o_e, ↓o_g, ↓o_ge, ↓k_ld, ↓k_ldn, isemS, ↓wD, wU, simprocAttr, g0, num_abs]
   refine w_ac fun G2 gE2 => ?_
   simp (disch := omega) only [↓a_nil, ↓a_st, ↓a_new, ↓a_box, ↓a_bsl, ↓a_ac, ↓a_ft, ↓a_ff, p_nil, p_new, p_box, p_bsl, ↓ow_s, ↓ow_e, ↓ow_g, ↓l_nil, ↓l_f, ↓l_t, ↓o_s, ↓o_e, ↓o_g, ↓o_ge, ↓k_ld, ↓k_ldn, isemS, ↓wD, wU, simprocAttr, g0]
   have gd2 := gE1.trans gE2
   have gF1 : ¬ MA y1 ∧ y1 ≠ p := ⟨fun h => hFy1 (.inl h), fun h => hFy1 (.inr h)⟩
   refine w_call (Numbers_cl (hWd.ext gd2) (one_int ((gE2.2 y1 hby1).trans hcy1) hkI) (fun x hx => by subst hx; exact gF1) (by simp only [List.length_cons, List.length_nil]; omega)) ?_
   rintro _ G3 ⟨rfl, hQ3⟩
   simp (disch := omega) only [↓a_nil, ↓a_st, ↓a_new, ↓a_box, ↓a_bsl, ↓a_ac, ↓a_ft, ↓a_ff, p_nil, p_new, p_box, p_bsl, ↓ow_s, ↓ow_e, ↓ow_g, ↓l_nil, ↓l_f, ↓l_t, ↓o_s, ↓o_e, ↓o_g, ↓o_ge, ↓k_ld, ↓k_ldn, isemS, ↓wD, wU, simprocAttr]
   have gp2 := Nat.lt_of_lt_of_le hpd gd2.1
   refine acP_wr rfl (fun x hx => by subst hx; exact hb8M) gp2 hQ3 fun N3 w3 hX3 hN3 => ?_
   have hQd3 := WrP.pre gd2 hQ3
   have hN3d : ∀ x, N3 x → MA x ∨ Hd.size ≤ x := fun x hx => (hN3 x hx).imp id fun h => Nat.le_trans gd2.1 h
   have hb8N3 : ¬ N3 HA.size ∧ HA.size ≠ p := ⟨fun hm => (hN3d _ hm).elim hb8M.1 (by omega), hb8M.2⟩
   have gl3 := numsE_len [((l[i]).acts[k]).kind]
   simp only [List.length_cons, List.length_nil] at gl3
   refine w_al fun y2 G4 gE4 hny2 hby2 hFy2 hAy2 hcy2 => ?_
   simp (disch := omega) only [↓a_nil, ↓a_st, ↓a_new, ↓a_box, ↓a_bsl, ↓a_ac, ↓a_ft, ↓a_ff, p_nil, p_new, p_box, p_bsl, ↓ow_s, ↓ow_e, ↓ow_g, ↓l_nil, ↓l_f, ↓l_t, ↓o_s, ↓o_e, ↓o_g, ↓o_ge, ↓k_ld, ↓k_ldn, isemS, ↓wD, wU, simprocAttr]
   refine w_ac fun G5 gE5 => ?_
   simp (disch := omega) only [↓a_nil, ↓a_st, ↓a_new, ↓a_box, ↓a_bsl, ↓a_ac, ↓a_ft, ↓a_ff, p_nil, p_new, p_box, p_bsl, ↓ow_s, ↓ow_e, ↓ow_g, ↓l_nil, ↓l_f, ↓l_t, ↓o_s, ↓o_e, ↓o_g, ↓o_ge, ↓k_ld, ↓k_ldn, isemS, ↓wD, wU, simprocAttr]
   have g45 := gE4.trans gE5
   have gF2 : ¬ N3 y2 ∧ y2 ≠ p := ⟨fun h => hFy2 (.inl h), fun h => hFy2 (.inr h)⟩
   refine w_call (Texts_cl (hX3.ext g45) (one_str ((gE5.2 y2 hby2).trans hcy2) hvz) (fun x hx => by subst hx; exact gF2) (by simp [szs]; omega)) ?_
   rintro _ G6 ⟨rfl, hQ6⟩
   simp (disch := omega) only [↓a_nil, ↓a_st, ↓a_new, ↓a_box, ↓a_bsl, ↓a_ac, ↓a_ft, ↓a_ff, p_nil, p_new, p_box, p_bsl, ↓ow_s, ↓ow_e, ↓ow_g, ↓l_nil, ↓l_f, ↓l_t, ↓o_s, ↓o_e, ↓o_g, ↓o_ge, ↓k_ld, ↓k_ldn, isemS, ↓wD, wU, simprocAttr]
   have gp5 := Nat.lt_of_lt_of_le (cell_lt hX3.c0) g45.1
   refine acP_wr rfl (fun x hx => by subst hx; exact hb8N3) gp5 hQ6 fun N6 w6 hX6 hN6 => ?_
   have hQd6 := WrP.next hpd hWd.lt hQd3 hN3d g45 hQ6
   have hs3d := hQd3.1.1
   have hN6d : ∀ x, N6 x → MA x ∨ Hd.size ≤ x := fun x hx => (hN6 x hx).elim (hN3d x) fun h => .inr (by have := g45.1; omega)
   have hb8N6 : ¬ N6 HA.size ∧ HA.size ≠ p := ⟨fun hm => (hN6d _ hm).elim hb8M.1 (by omega), hb8M.2⟩
   have gl6 := textE_len _ hvz
   refine w_al fun y3 G7 gE7 hny3 hby3 hFy3 hAy3 hcy3 => ?_
   simp (disch := omega) only [↓a_nil, ↓a_st, ↓a_new, ↓a_box, ↓a_bsl, ↓a_ac, ↓a_ft, ↓a_ff, p_nil, p_new, p_box, p_bsl, ↓ow_s, ↓ow_e, ↓ow_g, ↓l_nil, ↓l_f, ↓l_t, ↓o_s, ↓o_e, ↓o_g, ↓o_ge, ↓k_ld, ↓k_ldn, isemS, ↓wD, wU, simprocAttr]
   refine w_ac fun G8 gE8 => ?_
   simp (disch := omega) only [↓a_nil, ↓a_st, ↓a_new, ↓a_box, ↓a_bsl, ↓a_ac, ↓a_ft, ↓a_ff, p_nil, p_new, p_box, p_bsl, ↓ow_s, ↓ow_e, ↓ow_g, ↓l_nil, ↓l_f, ↓l_t, ↓o_s, ↓o_e, ↓o_g, ↓o_ge, ↓k_ld, ↓k_ldn, isemS, ↓wD, wU, simprocAttr]
   have g78 := gE7.trans gE8
   have gF3 : ¬ N6 y3 ∧ y3 ≠ p := ⟨fun h => hFy3 (.inl h), fun h => hFy3 (.inr h)⟩
   refine w_call (Flags_cl (hX6.ext g78) (one_flag ((gE8.2 y3 hby3).trans hcy3)) (fun x hx => by subst hx; exact gF3) (by simp; omega)) ?_
   rintro _ G9 ⟨rfl, hQ9⟩
   simp (disch := omega) only [↓a_nil, ↓a_st, ↓a_new, ↓a_box, ↓a_bsl, ↓a_ac, ↓a_ft, ↓a_ff, p_nil, p_new, p_box, p_bsl, ↓ow_s, ↓ow_e, ↓ow_g, ↓l_nil, ↓l_f, ↓l_t, ↓o_s, ↓o_e, ↓o_g, ↓o_ge, ↓k_ld, ↓k_ldn, isemS, ↓wD, wU, simprocAttr]
   have gp8 := Nat.lt_of_lt_of_le (cell_lt hX6.c0) g78.1
   refine acP_wr rfl (fun x hx => by subst hx; exact hb8N6) gp8 hQ9 fun N9 w9 hX9 hN9 => ?_
   have hQd9 := WrP.next hpd hWd.lt hQd6 hN6d g78 hQ9
   have hs6d := hQd6.1.1
   have hN9d : ∀ x, N9 x → MA x ∨ Hd.size ≤ x := fun x hx => (hN9 x hx).elim (hN6d x) fun h => .inr (by have := g78.1; omega)
   have hb8N9 : ¬ N9 HA.size ∧ HA.size ≠ p := ⟨fun hm => (hN9d _ hm).elim hb8M.1 (by omega), hb8M.2⟩
   refine w_al fun y4 G10 gE10 hny4 hby4 hFy4 hAy4 hcy4 => ?_
   simp (disch := omega) only [↓a_nil, ↓a_st, ↓a_new, ↓a_box, ↓a_bsl, ↓a_ac, ↓a_ft, ↓a_ff, p_nil, p_new, p_box, p_bsl, ↓ow_s, ↓ow_e, ↓ow_g, ↓l_nil, ↓l_f, ↓l_t, ↓o_s, ↓o_e, ↓o_g, ↓o_ge, ↓k_ld, ↓k_ldn, isemS, ↓wD, wU, simprocAttr]
   have gF4 : ¬ N9 y4 ∧ y4 ≠ p := ⟨fun h => hFy4 (.inl h), fun h => hFy4 (.inr h)⟩
   refine w_call (Numbers_cl (hX9.ext gE10) (one_int hcy4 (absI_ok hnb)) (fun x hx => by subst hx; exact gF4) (by simp; omega)) ?_
   rintro _ G11 ⟨rfl, hQ11⟩
   simp (disch := omega) only [↓a_nil, ↓a_st, ↓a_new, ↓a_box, ↓a_bsl, ↓a_ac, ↓a_ft, ↓a_ff, p_nil, p_new, p_box, p_bsl, ↓ow_s, ↓ow_e, ↓ow_g, ↓l_nil, ↓l_f, ↓l_t, ↓o_s, ↓o_e, ↓o_g, ↓o_ge, ↓k_ld, ↓k_ldn, isemS, ↓wD, wU, simprocAttr]
   have hs9d := hQd9.1.1
   have hs10 := gE10.1
   refine ⟨⟨hQ11.1.1, fun x hx hs => by subst hs; exact hQ11.1.2 _ hx hb8N9⟩, ?_⟩
   refine hK _ _ ?_
   (with_reducible repeat first | apply q_n | apply q_e | apply q_r | apply bq_n | apply bq_e | apply bq_r | apply bq_o rfl)
   have hQd11 := WrP.next hpd hWd.lt hQd9 hN9d gE10 hQ11
   refine w_reg1 fun K hK => ?_; simp (disch := omega) only [↓wD, wU, simprocAttr, g41]; refine hK _ _ ?_; clear hK K
   (with_reducible repeat first | apply q_n | apply q_e | apply q_r | apply bq_n | apply bq_e | apply bq_r | apply bq_o rfl)
   refine ⟨(l[i]).acts.length - (k + 1), by omega, (by simp only [wL, Nat.reduceBEq, g0]), (by simp only [wL, Nat.reduceBEq, g6]), (by simp only [wL, Nat.reduceBEq, g16]), (by simp only [wL, Nat.reduceBEq, g17]), (by simp only [wL, Nat.reduceBEq, g18]), (by simp only [wL, Nat.reduceBEq, g39]), (by simp only [wL, Nat.reduceBEq, g40]), k + 1, (by simp only [wL, Nat.reduceBEq]), by omega, rfl, ?_⟩
   have hfin := WrP.trans hpc hWc.lt hkA hMA (WrP.pre hEd hQd11)
   have e1 : (spA || ![((l[i]).acts[k]).kind].all numOk || ![absI ((l[i]).acts[k]).num].all numOk) = (sp5 || !((l[i]).acts.take (k + 1)).all actOk) := by
    rw [← hspA, htakeA, List.all_append]
    simp only [List.all_cons, List.all_nil, Bool.and_true, actOk]
    cases sp5 <;> cases ((l[i]).acts.take k).all actOk <;> cases numOk ((l[i]).acts[k]).kind <;> cases numOk (absI ((l[i]).acts[k]).num) <;> rfl
   have e2 : bsA ++ numsE [((l[i]).acts[k]).kind] ++ [((l[i]).acts[k]).value].flatMap textE ++ [decide (((l[i]).acts[k]).num < 0)].map flagE ++ numsE [absI ((l[i]).acts[k]).num] = bs5 ++ ((l[i]).acts.take (k + 1)).flatMap actE := by
    rw [← hbsA, htakeA, snoc_flat]
    simp [actE]
   rw [← e1, ← e2]
   exact hfin
  ·refine w_reg fun K hK => ?_; simp (disch := omega) only [↓wD, wU, simprocAttr, g40, g41, hkl]; refine hK _ _ ?_; clear hK K
   refine w_seq ?_
   refine wf ?_
   refine w_exit ?_
   (with_reducible repeat first | apply q_n | apply q_e | apply q_r | apply bq_n | apply bq_e | apply bq_r | apply bq_o rfl)
   have hfullA : (l[i]).acts.take k = (l[i]).acts := List.take_of_length_le (by omega)
   rw [hfullA] at hPA
   obtain ⟨e0, e1, e2, e3, e4, e5, e6⟩ := rdn7 (ecs ▸ (stab hPA).1)
   simp only [Nat.zero_add] at e0 e1 e2 e3 e4 e5 e6
   have hal := flat_all (e := actE) (w := actW) hawl
   -- how many reads
   obtain ⟨hkA, MA, vA, hWA, hMA⟩ := hPA
   refine w_reg fun K hK => ?_
   simp (disch := omega) only [↓wD, wU, simprocAttr, g0, g6, e4]
   have hEr : Ext HA (HA.push (.cells #[.int .i64 (l[i]).reads.length] 3)) := (Ext.refl _).push _
   have hIr : ISl (fun x => x = HA.size) (HA.push (.cells #[.int .i64 (l[i]).reads.length] 3)) (.slice (some ⟨HA.size, 0, none⟩) 1 1) [((l[i]).reads.length : Int)] := one_int (t := 3) (by simp) (nlen_ok hrll).1
   refine w_call (Numbers_cl (hWA.ext hEr) hIr (fun x hx => ⟨fun hm => by have := hWA.lt x hm; omega, by have := cell_lt hWA.c0; omega⟩) (by simp only [List.length_append, List.length_cons, List.length_nil]; omega)) ?_
   rintro _ HB ⟨rfl, hPB⟩
   simp (disch := omega) only [↓wD, wU, simprocAttr]
   refine hK _ _ ?_
   clear hK K
   have hPcB := WrP.next hpc hWc.lt ⟨hkA, MA, vA, hWA, hMA⟩ hMA hEr hPB
   obtain ⟨spB, hspB, bsB, hbsB, hPcB⟩ : ∃ spB, spB = (sp5 || !(l[i]).acts.all actOk) ∧ ∃ bsB, bsB = bs5 ++ (l[i]).acts.flatMap actE ++ numsE [((l[i]).reads.length : Int)] ∧ WrP M' Hc p spB bsB HB := by
    refine ⟨_, rfl, _, rfl, ?_⟩
    have e1 : (sp5 || !(l[i]).acts.all actOk || ![((l[i]).reads.length : Int)].all numOk) = (sp5 || !(l[i]).acts.all actOk) := by simp [(nlen_ok hrll).2]
    rw [e1] at hPcB
    exact hPcB
   have hbsBl : bsB.length + (l[i]).value.size + 40 + ((l[i]).reads.map readW).sum ≤ 140737488355328 := by
    subst hbsB
    have := numsE_len [((l[i]).reads.length : Int)]
    simp only [List.length_append, List.length_cons, List.length_nil] at this ⊢
    omega
   clear hPB hWA hMA hkA hIr hEr
   obtain ⟨e0, e1, e2, e3, e4, e5, e6⟩ := rdn7 (ecs ▸ (stab hPcB).1)
   simp only [Nat.zero_add] at e0 e1 e2 e3 e4 e5 e6
   have hrwl : ∀ r ∈ (l[i]).reads, (readE r).length ≤ readW r := by
    obtain ⟨_, _, -, -, -, hre⟩ := SlP.open hr
    intro r hr
    obtain ⟨j, hj, rfl⟩ := List.getElem_of_mem hr
    obtain ⟨_, _, -, -, _, -, -, -, hz⟩ := hre j hj
    exact readE_len hz
   refine w_seq (w_seq ?_)
   refine w_reg fun K hK => ?_; simp (disch := omega) only [↓wD, wU, simprocAttr, g6, e4]; refine hK _ _ ?_; clear hK K
   refine w_blk (w_loop (fun n' f H' => f 0 = .pointer (some ⟨p, 0, none⟩) ∧ f 6 = .pointer (some ⟨B6, 0, none⟩) ∧ f 16 = .slice (some ⟨b, o, none⟩) l.length c ∧ f 17 = .int .i64 l.length ∧ f 18 = .int .i64 i ∧ f 76 = .slice ra (l[i]).reads.length rac ∧ f 77 = .int .i64 (l[i]).reads.length ∧ ∃ k : Nat, f 78 = .int .i64 k ∧ k ≤ (l[i]).reads.length ∧ n' = (l[i]).reads.length - k ∧ WrP M' Hc p spB (bsB ++ ((l[i]).reads.take k).flatMap readE) H') (l[i]).reads.length ⟨(by simp only [wL, Nat.reduceBEq, g0]), (by simp only [wL, Nat.reduceBEq, g6]), (by simp only [wL, Nat.reduceBEq, g16]), (by simp only [wL, Nat.reduceBEq, g17]), (by simp only [wL, Nat.reduceBEq, g18]), (by simp only [wL, Nat.reduceBEq]), (by simp only [wL, Nat.reduceBEq]), 0, (by simp only [wL, Nat.reduceBEq]; rfl), Nat.zero_le _, rfl, by simpa using hPcB⟩ ?_)
   clear g0 g6 g16 g17 g18 g39 g40 g41
   clear g
   rintro n' g HA ⟨g0, g6, g16, g17, g18, g76, g77, k, g78, hk4, rfl, hPA⟩
   by_cases hkl : k < (l[i]).reads.length
   ·obtain ⟨-, -, hreadsA⟩ := stab hPA
    obtain ⟨ra', rac', era, -, -, hre⟩ := SlP.open hreadsA
    obtain ⟨rfl, -, -⟩ := Value.slice.inj era
    obtain ⟨ab, ao, rfl, hSa, acs, hacs, eac, hkz, hvz⟩ := hre k hkl
    have hacs' := hacs
    rw [eac] at hacs'
    obtain ⟨q0, q1, q2⟩ := rdn3 hacs'
    have hroomA := flat_le (e := readE) (w := readW) hrwl k hkl
    have htakeA : (l[i]).reads.take (k + 1) = (l[i]).reads.take k ++ [(l[i]).reads[k]] := by
     rw [List.take_add_one, List.getElem?_eq_getElem hkl]; rfl
    obtain ⟨hkA, MA, vA, hWA, hMA⟩ := hPA
    refine w_reg fun K hK => ?_; simp (disch := omega) only [↓wD, wU, simprocAttr, g77, g78, hkl]; refine hK _ _ ?_; clear hK K
    refine w_seq ?_
    refine wt ?_
    refine w_skip ?_
    (with_reducible repeat first | apply q_n | apply q_e | apply q_r | apply bq_n | apply bq_e | apply bq_r | apply bq_o rfl)
    refine w_seq (w_blk ?_)
    refine w_reg fun K hK => ?_; simp (disch := omega) only [↓wD, wU, simprocAttr, g76, g78, hkl, q0, q1, q2]; refine hK _ _ ?_; clear hK K
    rw [← eac]
    have hEd : Ext HA (HA.push (.cells acs.toArray 100)) := (Ext.refl _).push _
    have hb8 : HA.size < (HA.push (.cells acs.toArray 100)).size := by simp
    have hr8 : rdn (HA.push (.cells acs.toArray 100)) HA.size 0 3 = some acs := by
     rw [rdn_new HA acs 100 0 3 (by rw [eac]; exact Nat.le_refl _), eac]; rfl
    generalize HA.push (.cells acs.toArray 100) = Hd at hEd hb8 hr8 ⊢
    have hWd := hWA.ext hEd
    have hpA := cell_lt hWA.c0
    have hpd := cell_lt hWd.c0
    have hb8M : ¬ MA HA.size ∧ HA.size ≠ p := ⟨fun hm => by have := hWA.lt _ hm; omega, by omega⟩
    rw [eac] at hr8
    obtain ⟨u0, u1, u2⟩ := rdn3 hr8
    simp only [Nat.zero_add] at u0 u1 u2
    have hvz' : ((l[i]).reads[k]).value.size ≤ 140737488355328 := hvz
    have hwA : readW (l[i]).reads[k] = ((l[i]).reads[k]).value.size + 20 := rfl
    have hlA : (bsB ++ ((l[i]).reads.take k).flatMap readE).length + ((l[i]).reads[k]).value.size + 40 ≤ 140737488355328 := by
     rw [List.length_append]; omega
    generalize hbsA : bsB ++ ((l[i]).reads.take k).flatMap readE = bsA at hWA hWd hlA
    refine w_alc1 (fun x => x = HA.size) (fun x => MA x ∨ x = p) (fun x hx => hx.elim (hWd.lt x) fun e => e ▸ hpd) fun K hK => ?_
    simp (disch := omega) only [↓a_nil, ↓a_st, ↓a_new, ↓a_box, ↓a_bsl, ↓a_ac, ↓a_ft, ↓a_ff, p_nil, p_new, p_box, p_bsl, ↓ow_s, ↓ow_e, ↓ow_g, ↓l_nil, ↓l_f, ↓l_t, ↓o_s, ↓o_e, ↓o_g, ↓o_ge, ↓k_ld, ↓k_ldn, isemS, ↓wD, wU, simprocAttr, g0, u1, u2]
    refine w_al fun y1 G1 gE1 hny1 hby1 hFy1 hAy1 hcy1 => ?_
    simp (disch := omega) only [↓a_nil, ↓a_st, ↓a_new, ↓a_box, ↓a_bsl, ↓a_ac, ↓a_ft, ↓a_ff, p_nil, p_new, p_box, p_bsl, ↓ow_s, ↓ow_e, ↓ow_g, ↓l_nil, ↓l_f, ↓l_t, ↓o_s, ↓o_e, ↓o_g, ↓o_ge, ↓k_ld, ↓k_ldn, isemS, ↓wD, wU, simprocAttr, g0]
    refine w_ac fun G2 gE2 => ?_
    simp (disch := omega) only [↓a_nil, ↓a_st, ↓a_new, ↓a_box, ↓a_bsl, ↓a_ac, ↓a_ft, ↓a_ff, p_nil, p_new, p_box, p_bsl, ↓ow_s, ↓ow_e, ↓ow_g, ↓l_nil, ↓l_f, ↓l_t, ↓o_s, ↓o_e, ↓o_g, ↓o_ge, ↓k_ld, ↓k_ldn, isemS, ↓wD, wU, simprocAttr, g0]
    have gd2 := gE1.trans gE2
    have gF1 : ¬ MA y1 ∧ y1 ≠ p := ⟨fun h => hFy1 (.inl h), fun h => hFy1 (.inr h)⟩
    refine w_call (Flags_cl (hWd.ext gd2) (one_flag ((gE2.2 y1 hby1).trans hcy1)) (fun x hx => by subst hx; exact gF1) (by simp only [List.length_cons, List.length_nil]; omega)) ?_
    rintro _ G3 ⟨rfl, hQ3⟩
    simp (disch := omega) only [↓a_nil, ↓a_st, ↓a_new, ↓a_box, ↓a_bsl, ↓a_ac, ↓a_ft, ↓a_ff, p_nil, p_new, p_box, p_bsl, ↓ow_s, ↓ow_e, ↓ow_g, ↓l_nil, ↓l_f, ↓l_t, ↓o_s, ↓o_e, ↓o_g, ↓o_ge, ↓k_ld, ↓k_ldn, isemS, ↓wD, wU, simprocAttr]
    have gp2 := Nat.lt_of_lt_of_le hpd gd2.1
    refine acP_wr rfl (fun x hx => by subst hx; exact hb8M) gp2 hQ3 fun N3 w3 hX3 hN3 => ?_
    have hQd3 := WrP.pre gd2 hQ3
    have hN3d : ∀ x, N3 x → MA x ∨ Hd.size ≤ x := fun x hx => (hN3 x hx).imp id fun h => Nat.le_trans gd2.1 h
    have hb8N3 : ¬ N3 HA.size ∧ HA.size ≠ p := ⟨fun hm => (hN3d _ hm).elim hb8M.1 (by omega), hb8M.2⟩
    refine w_al fun y2 G4 gE4 hny2 hby2 hFy2 hAy2 hcy2 => ?_
    simp (disch := omega) only [↓a_nil, ↓a_st, ↓a_new, ↓a_box, ↓a_bsl, ↓a_ac, ↓a_ft, ↓a_ff, p_nil, p_new, p_box, p_bsl, ↓ow_s, ↓ow_e, ↓ow_g, ↓l_nil, ↓l_f, ↓l_t, ↓o_s, ↓o_e, ↓o_g, ↓o_ge, ↓k_ld, ↓k_ldn, isemS, ↓wD, wU, simprocAttr]
    have gF2 : ¬ N3 y2 ∧ y2 ≠ p := ⟨fun h => hFy2 (.inl h), fun h => hFy2 (.inr h)⟩
    refine w_call (Texts_cl (hX3.ext gE4) (one_str hcy2 hvz) (fun x hx => by subst hx; exact gF2) (by simp [szs]; omega)) ?_
    rintro _ G6 ⟨rfl, hQ6⟩
    simp (disch := omega) only [↓a_nil, ↓a_st, ↓a_new, ↓a_box, ↓a_bsl, ↓a_ac, ↓a_ft, ↓a_ff, p_nil, p_new, p_box, p_bsl, ↓ow_s, ↓ow_e, ↓ow_g, ↓l_nil, ↓l_f, ↓l_t, ↓o_s, ↓o_e, ↓o_g, ↓o_ge, ↓k_ld, ↓k_ldn, isemS, ↓wD, wU, simprocAttr]
    have hs3d := hQd3.1.1
    have hs4d := gE4.1
    refine ⟨⟨hQ6.1.1, fun x hx hs => by subst hs; exact hQ6.1.2 _ hx hb8N3⟩, ?_⟩
    refine hK _ _ ?_
    (with_reducible repeat first | apply q_n | apply q_e | apply q_r | apply bq_n | apply bq_e | apply bq_r | apply bq_o rfl)
    have hQd6 := WrP.next hpd hWd.lt hQd3 hN3d gE4 hQ6
    refine w_reg1 fun K hK => ?_; simp (disch := omega) only [↓wD, wU, simprocAttr, g78]; refine hK _ _ ?_; clear hK K
    (with_reducible repeat first | apply q_n | apply q_e | apply q_r | apply bq_n | apply bq_e | apply bq_r | apply bq_o rfl)
    refine ⟨(l[i]).reads.length - (k + 1), by omega, (by simp only [wL, Nat.reduceBEq, g0]), (by simp only [wL, Nat.reduceBEq, g6]), (by simp only [wL, Nat.reduceBEq, g16]), (by simp only [wL, Nat.reduceBEq, g17]), (by simp only [wL, Nat.reduceBEq, g18]), (by simp only [wL, Nat.reduceBEq, g76]), (by simp only [wL, Nat.reduceBEq, g77]), k + 1, (by simp only [wL, Nat.reduceBEq]), by omega, rfl, ?_⟩
    have hfin := WrP.trans hpc hWc.lt hkA hMA (WrP.pre hEd hQd6)
    have e2 : bsA ++ [((l[i]).reads[k]).is].map flagE ++ [((l[i]).reads[k]).value].flatMap textE = bsB ++ ((l[i]).reads.take (k + 1)).flatMap readE := by
     rw [← hbsA, htakeA, snoc_flat]
     simp [readE]
    rw [← e2]
    exact hfin
   ·refine w_reg fun K hK => ?_; simp (disch := omega) only [↓wD, wU, simprocAttr, g77, g78, hkl]; refine hK _ _ ?_; clear hK K
    refine w_seq ?_
    refine wf ?_
    refine w_exit ?_
    (with_reducible repeat first | apply q_n | apply q_e | apply q_r | apply bq_n | apply bq_e | apply bq_r | apply bq_o rfl)
    have hfullA : (l[i]).reads.take k = (l[i]).reads := List.take_of_length_le (by omega)
    rw [hfullA] at hPA
    have hrl := flat_all (e := readE) (w := readW) hrwl
    obtain ⟨e0, e1, e2, e3, e4, e5, e6⟩ := rdn7 (ecs ▸ (stab hPA).1)
    simp only [Nat.zero_add] at e0 e1 e2 e3 e4 e5 e6
    obtain ⟨hkA, MA, vA, hWA, hMA⟩ := hPA
    have hpA := cell_lt hWA.c0
    have hsA := hkA.1
    have hb6M : ¬ MA B6 ∧ B6 ≠ p := ⟨fun hm => (hMA _ hm).elim hb6M.1 (by omega), hb6M.2⟩
    have hval' : (l[i]).value.size ≤ 140737488355328 := hval
    refine w_alc1 (fun x => x = B6) (fun x => MA x ∨ x = p) (fun x hx => hx.elim (hWA.lt x) fun e => e ▸ hpA) fun K hK => ?_
    simp (disch := omega) only [↓a_nil, ↓a_st, ↓a_new, ↓a_box, ↓a_bsl, ↓a_ac, ↓a_ft, ↓a_ff, p_nil, p_new, p_box, p_bsl, ↓ow_s, ↓ow_e, ↓ow_g, ↓l_nil, ↓l_f, ↓l_t, ↓o_s, ↓o_e, ↓o_g, ↓o_ge, ↓k_ld, ↓k_ldn, isemS, ↓wD, wU, simprocAttr, g0, g6, e5, e6]
    refine w_al fun y1 G1 gE1 hny1 hby1 hFy1 hAy1 hcy1 => ?_
    simp (disch := omega) only [↓a_nil, ↓a_st, ↓a_new, ↓a_box, ↓a_bsl, ↓a_ac, ↓a_ft, ↓a_ff, p_nil, p_new, p_box, p_bsl, ↓ow_s, ↓ow_e, ↓ow_g, ↓l_nil, ↓l_f, ↓l_t, ↓o_s, ↓o_e, ↓o_g, ↓o_ge, ↓k_ld, ↓k_ldn, isemS, ↓wD, wU, simprocAttr, g0]
    refine w_ac fun G2 gE2 => ?_
    simp (disch := omega) only [↓a_nil, ↓a_st, ↓a_new, ↓a_box, ↓a_bsl, ↓a_ac, ↓a_ft, ↓a_ff, p_nil, p_new, p_box, p_bsl, ↓ow_s, ↓ow_e, ↓ow_g, ↓l_nil, ↓l_f, ↓l_t, ↓o_s, ↓o_e, ↓o_g, ↓o_ge, ↓k_ld, ↓k_ldn, isemS, ↓wD, wU, simprocAttr, g0]
    have gd2 := gE1.trans gE2
    have gF1 : ¬ MA y1 ∧ y1 ≠ p := ⟨fun h => hFy1 (.inl h), fun h => hFy1 (.inr h)⟩
    refine w_call (Flags_cl (hWA.ext gd2) (one_flag ((gE2.2 y1 hby1).trans hcy1)) (fun x hx => by subst hx; exact gF1) (by simp only [List.length_append, List.length_cons, List.length_nil]; omega)) ?_
    rintro _ G3 ⟨rfl, hQ3⟩
    simp (disch := omega) only [↓a_nil, ↓a_st, ↓a_new, ↓a_box, ↓a_bsl, ↓a_ac, ↓a_ft, ↓a_ff, p_nil, p_new, p_box, p_bsl, ↓ow_s, ↓ow_e, ↓ow_g, ↓l_nil, ↓l_f, ↓l_t, ↓o_s, ↓o_e, ↓o_g, ↓o_ge, ↓k_ld, ↓k_ldn, isemS, ↓wD, wU, simprocAttr]
    have gp2 := Nat.lt_of_lt_of_le hpA gd2.1
    refine acP_wr rfl (fun x hx => by subst hx; exact hb6M) gp2 hQ3 fun N3 w3 hX3 hN3 => ?_
    have hQd3 := WrP.pre gd2 hQ3
    have hN3d : ∀ x, N3 x → MA x ∨ HA.size ≤ x := fun x hx => (hN3 x hx).imp id fun h => Nat.le_trans gd2.1 h
    have hb6N3 : ¬ N3 B6 ∧ B6 ≠ p := ⟨fun hm => (hN3d _ hm).elim hb6M.1 (by omega), hb6M.2⟩
    refine w_al fun y2 G4 gE4 hny2 hby2 hFy2 hAy2 hcy2 => ?_
    simp (disch := omega) only [↓a_nil, ↓a_st, ↓a_new, ↓a_box, ↓a_bsl, ↓a_ac, ↓a_ft, ↓a_ff, p_nil, p_new, p_box, p_bsl, ↓ow_s, ↓ow_e, ↓ow_g, ↓l_nil, ↓l_f, ↓l_t, ↓o_s, ↓o_e, ↓o_g, ↓o_ge, ↓k_ld, ↓k_ldn, isemS, ↓wD, wU, simprocAttr]
    have gF2 : ¬ N3 y2 ∧ y2 ≠ p := ⟨fun h => hFy2 (.inl h), fun h => hFy2 (.inr h)⟩
    refine w_call (Texts_cl (hX3.ext gE4) (one_str hcy2 hval) (fun x hx => by subst hx; exact gF2) (by simp only [szs, List.map_cons, List.map_nil, List.sum_cons, List.sum_nil, List.length_append, List.length_map, List.length_cons, List.length_nil]; omega)) ?_
    rintro _ G6 ⟨rfl, hQ6⟩
    simp (disch := omega) only [↓a_nil, ↓a_st, ↓a_new, ↓a_box, ↓a_bsl, ↓a_ac, ↓a_ft, ↓a_ff, p_nil, p_new, p_box, p_bsl, ↓ow_s, ↓ow_e, ↓ow_g, ↓l_nil, ↓l_f, ↓l_t, ↓o_s, ↓o_e, ↓o_g, ↓o_ge, ↓k_ld, ↓k_ldn, isemS, ↓wD, wU, simprocAttr]
    have hs3d := hQd3.1.1
    have hs4d := gE4.1
    refine ⟨⟨hQ6.1.1, fun x hx hs => by subst hs; exact hQ6.1.2 _ hx hb6N3⟩, ?_⟩
    refine hK _ _ ?_
    (with_reducible repeat first | apply q_n | apply q_e | apply q_r | apply bq_n | apply bq_e | apply bq_r | apply bq_o rfl)
    have hQd6 := WrP.next hpA hWA.lt hQd3 hN3d gE4 hQ6
    refine w_reg1 fun K hK => ?_; simp (disch := omega) only [↓wD, wU, simprocAttr, g18]; refine hK _ _ ?_; clear hK K
    (with_reducible repeat first | apply q_n | apply q_e | apply q_r | apply bq_n | apply bq_e | apply bq_r | apply bq_o rfl)
    refine ⟨l.length - (i + 1), by omega, (by simp only [wL, Nat.reduceBEq, g0]), (by simp only [wL, Nat.reduceBEq, g16]), (by simp only [wL, Nat.reduceBEq, g17]), i + 1, (by simp only [wL, Nat.reduceBEq]), by omega, rfl, ?_⟩
    have hfin := WrP.trans hp hW.lt hk hM' (WrP.pre hEc (WrP.trans hpc hWc.lt hkA hMA hQd6))
    have q1 : spB = (sp || !(l.take (i + 1)).all holdOk) := by
     rw [hspB, hsp5, ← hsp, htake, List.all_append]
     simp only [List.all_cons, List.all_nil, Bool.and_true, holdOk]
     cases sp <;> cases (l.take i).all holdOk <;> cases numOk (l[i]).name.client <;> cases numOk (l[i]).name.num <;> cases (l[i]).acts.all actOk <;> rfl
    have q2 : bsB ++ (l[i]).reads.flatMap readE ++ [(l[i]).put].map flagE ++ [(l[i]).value].flatMap textE = B0 ++ (l.take (i + 1)).flatMap holdE := by
     rw [hbsB, hbs5, ← hbs, htake, snoc_flat]
     simp [holdE]
    rw [← q1, ← q2]
    exact hfin
 ·refine w_reg fun K hK => ?_; simp (disch := omega) only [↓wD, wU, simprocAttr, f17, f18, hil]; refine hK _ _ ?_; clear hK K
  refine w_seq ?_
  refine wf ?_
  refine w_exit ?_
  (with_reducible repeat first | apply q_n | apply q_e | apply q_r | apply bq_n | apply bq_e | apply bq_r | apply bq_o rfl)
  have hfull : l.take i = l := List.take_of_length_le (by omega)
  rw [hfull] at hW'
  refine w_reg fun K hK => ?_; simp (disch := omega) only [↓wD, wU, simprocAttr, f0]; refine hK _ _ ?_; clear hK K
  refine w_ret ?_; (with_reducible repeat first | apply q_n | apply q_e | apply q_r | apply bq_n | apply bq_e | apply bq_r | apply bq_o rfl); refine ret1 (by (try simp only [wL, Nat.reduceBEq]); rfl) ?_
  exact ⟨rfl, hk, M', v', hW', hM'⟩
end Go.WK
/-
 Holds out of bytes.
-/
namespace Go.WK
open Go Go.Proofs

abbrev St := Option (List UInt8)
theorem app_one {M : Nat → Prop} {H : Hp} {k t bytes : Nat} {z : List Value} {κ : Value → Hp → Prop} {v : Value} {css : List (List Value)} {cs : List Value} (hv : Row M H k v css) (hM : ∀ x, M x → x < H.size) (hc : cs.length = k ∧ One cs) (hz : z.length = k) (hb : bytes ≠ 0) (hsz : (css.length + 1) * bytes ≤ 140737488355328)
  (h : ∀ v' H', Row (fun x => M x ∨ x = H.size) H' k v' (css ++ [cs]) → KeepOn (fun x => ¬ M x) H H' → H'.size ≤ H.size + 1 → κ v' H') {a : Option Addr} {n c : Nat} (ha : v = .slice a n c) :
  @appK H t k bytes z a n c 1 cs ⟨κ⟩ := by
 have := app_row (t := t) (new := [cs]) hv hM (fun x hx => by simp at hx; subst hx; exact hc) hz hb (by simpa using hsz) h ha
 simpa using this
theorem as_one {H : Hp} {k b o c : Nat} : appSrc H k (.slice (some ⟨b, o, none⟩) 1 c) = (rdn H b o k).map fun l => (1, l) := by simp [appSrc]
def actR (key : ByteArray) (st : St) : (Ac × Bool) × St :=
 ((⟨(numR 3 st).1, key, (textR 20 (numR 3 st).2).1, if (flagR (textR 20 (numR 3 st).2).2).1 then -(numR 1073741824 (flagR (textR 20 (numR 3 st).2).2).2).1 else (numR 1073741824 (flagR (textR 20 (numR 3 st).2).2).2).1⟩,
  !(flagR (textR 20 (numR 3 st).2).2).1 || decide (0 < (numR 1073741824 (flagR (textR 20 (numR 3 st).2).2).2).1)), (numR 1073741824 (flagR (textR 20 (numR 3 st).2).2).2).2)
def actsL (key : ByteArray) : Nat → List Ac → Bool → St → (List Ac × Bool) × St
 | 0, l, ok, st => ((l, ok), st)
 | n + 1, l, ok, st => actsL key n (l ++ [(actR key st).1.1]) (ok && (actR key st).1.2) (actR key st).2
def actsR (key : ByteArray) (st : St) : (List Ac × Bool) × St := actsL key (numR 6 st).1.toNat [] true (numR 6 st).2
theorem actsL_len {key : ByteArray} : ∀ {n : Nat} {l : List Ac} {ok : Bool} {st : St}, (actsL key n l ok st).1.1.length = l.length + n
 | 0, l, ok, st => rfl
 | n + 1, l, ok, st => by rw [actsL, actsL_len]; simp; omega
theorem numR_bd (most : Int) (st : St) (h : 0 ≤ most) : 0 ≤ (numR most st).1 ∧ (numR most st).1 ≤ most := by
 obtain ⟨n, e, -⟩ := numR_nat most st
 exact ⟨by rw [e]; omega, numR_most most st h⟩
theorem textR_sz (most : Int) (st : St) (h : 0 ≤ most) (h2 : most ≤ 140737488355328) : Sz (textR most st).1 ∧ ((textR most st).1.size : Int) ≤ most := by
 have e : (textR most st).1.size = (rowR most st).1.length := by simp [textR, ByteArray.size]
 have hb := numR_bd most st h
 have : (rowR most st).1.length ≤ (numR most st).1.toNat := by
  unfold rowR
  cases (numR most st).2 with
  | none => simp
  | some l =>
   simp only
   split
   ·simp
   ·rw [List.length_take]; omega
 refine ⟨?_, by rw [e]; omega⟩
 unfold Sz big
 rw [e]; omega
theorem acts_cl {S : Nat → Prop} {H : Hp} {p : Nat} {st : St} {v : Value} {key : ByteArray} (h : Rr S H p st v) (hk : Sz key) :
  Cl Tryz.prog 136 [.pointer (some ⟨p, 0, none⟩), .string key] H fun r H' => RrP S H p (actsR key st).2 H' ∧ ∃ (u : Value) (M : Nat → Prop), r = .tuple #[u, .bool (actsR key st).1.2] ∧ (∀ x, M x → H.size ≤ x ∧ x < H'.size) ∧ AcSl M H' u (actsR key st).1.1 := by
 refine cl_of mixed c_holds_acts (Nat.le_of_ble_eq_true rfl) ?_
 simp only [fwp, ir_holds_acts, argF, Nat.reduceAdd]
 have hp := cell_lt h.c0
 refine w_reg fun K hK => ?_; simp (disch := omega) only [↓wD, wU, simprocAttr]; refine hK _ _ ?_; clear hK K
 refine w_reg fun K hK => ?_; simp (disch := omega) only [↓wD, wU, simprocAttr]; refine hK _ _ ?_; clear hK K
 refine w_seq (w_seq ?_)
 refine w_reg fun K hK => ?_
 simp (disch := omega) only [↓wD, wU, simprocAttr]
 refine w_call (Number_cl (most := 6) h) ?_
 rintro _ H1 ⟨rfl, hk1, v1, hR1⟩
 obtain ⟨hn0, hn6⟩ := numR_bd 6 st (by omega)
 obtain ⟨n, hn⟩ : ∃ n : Nat, (numR 6 st).1 = n := ⟨(numR 6 st).1.toNat, by omega⟩
 have eR : actsR key st = actsL key n [] true (numR 6 st).2 := by unfold actsR; rw [hn, Int.toNat_natCast]
 rw [hn] at hn6
 simp (disch := omega) only [↓wD, wU, simprocAttr, hn]
 refine hK _ _ ?_
 clear hK K
 refine w_blk (w_loop (fun n' f H' => f 0 = .pointer (some ⟨p, 0, none⟩) ∧ f 1 = .string key ∧ f 9 = .int .i64 n ∧ ∃ (i : Nat) (L : List Ac) (ok : Bool) (sti : St) (vi u : Value) (M' : Nat → Prop) (css : List (List Value)), f 10 = .int .i64 i ∧ i ≤ n ∧ n' = n - i ∧ f 4 = u ∧ f 5 = .bool ok ∧ KeepOn (fun x => x ≠ p) H H' ∧ Rr S H' p sti vi ∧ (∀ x, M' x → H.size ≤ x ∧ x < H'.size) ∧ Row M' H' 4 u css ∧ css.length = L.length ∧ (∀ j (hj : j < css.length) (hl : j < L.length), ElAc css[j] L[j]) ∧ L.length = i ∧ actsL key (n - i) L ok sti = actsL key n [] true (numR 6 st).2) n ⟨(by simp only [wL, Nat.reduceBEq]), (by simp only [wL, Nat.reduceBEq]), (by simp only [wL, Nat.reduceBEq]), 0, [], true, _, v1, _, fun _ => False, [], (by simp only [wL, Nat.reduceBEq]; rfl), Nat.zero_le _, rfl, (by simp only [wL, Nat.reduceBEq]), (by simp only [wL, Nat.reduceBEq]), hk1, hR1, fun _ h => h.elim, Row.nil, rfl, fun j hj => by simp at hj, rfl, rfl⟩ ?_)
 rintro n' f H' ⟨f0, f1, f9, i, L, ok, sti, vi, u, M', css, f10, hi, rfl, f4, f5, hkA, hR, hM', hrow, hcl, hel, hLi, hD⟩
 by_cases hil : i < n
 ·refine w_reg fun K hK => ?_; simp (disch := omega) only [↓wD, wU, simprocAttr, f9, f10, hil]; refine hK _ _ ?_; clear hK K
  refine w_seq ?_
  refine wt ?_
  refine w_skip ?_
  (with_reducible repeat first | apply q_n | apply q_e | apply q_r | apply bq_n | apply bq_e | apply bq_r | apply bq_o rfl)
  refine w_seq (w_blk ?_)
  have hps := hkA.1
  have hp' := cell_lt hR.c0
  have hb1 := numR_bd 3 sti (by omega)
  have hu8 : IntKind.u8.wrap (numR 3 sti).1 = (numR 3 sti).1 := wr8 (by omega) (by omega)
  refine w_reg fun K hK => ?_
  simp (disch := omega) only [↓wD, wU, simprocAttr, f0]
  refine w_call (Number_cl (most := 3) hR) ?_
  rintro _ G1 ⟨rfl, gk1, gv1, gR1⟩
  simp (disch := omega) only [↓wD, wU, simprocAttr, f0, f1, hu8]
  refine w_call (Text_cl (most := 20) gR1) ?_
  rintro _ G2 ⟨rfl, gk2, gv2, gR2⟩
  have hsz := textR_sz 20 (numR 3 sti).2 (by omega) (by omega)
  simp (disch := omega) only [↓wD, wU, simprocAttr, f1, hu8]
  refine hK _ _ ?_
  clear hK K
  have hE3 : Ext G2 (G2.push (.cells #[.int .u8 (numR 3 sti).1, .string key, .string (textR 20 (numR 3 sti).2).1, .int .i64 0] 98)) := (Ext.refl _).push _
  have ho3 := Own_new G2 [.int .u8 (numR 3 sti).1, .string key, .string (textR 20 (numR 3 sti).2).1, .int .i64 0] 98
  have hr3 := rdn_new G2 [.int .u8 (numR 3 sti).1, .string key, .string (textR 20 (numR 3 sti).2).1, .int .i64 0] 98 0 4 (Nat.le_refl _)
  have hb3 : G2.size < (G2.push (.cells #[.int .u8 (numR 3 sti).1, .string key, .string (textR 20 (numR 3 sti).2).1, .int .i64 0] 98)).size := by simp
  generalize G2.push (.cells #[.int .u8 (numR 3 sti).1, .string key, .string (textR 20 (numR 3 sti).2).1, .int .i64 0] 98) = G3 at hE3 ho3 hr3 hb3 ⊢
  have gs1 := gk1.1
  have gs2 := gk2.1
  refine w_reg fun K hK => ?_
  simp (disch := omega) only [↓wD, wU, simprocAttr, f0]
  refine w_call (Flag_cl (gR2.ext hE3)) ?_
  rintro _ G4 ⟨rfl, gk4, gv4, gR4⟩
  simp (disch := omega) only [↓wD, wU, simprocAttr]
  refine hK _ _ ?_
  clear hK K
  have gs3 := hE3.1
  have gs4 := gk4.1
  have hG2p : p < G2.size := by omega
  have hne6 : G2.size ≠ p := by omega
  obtain ⟨s3, hs3⟩ : ∃ s3, s3 = (flagR (textR 20 (numR 3 sti).2).2).2 := ⟨_, rfl⟩
  obtain ⟨bl, hbl⟩ : ∃ bl, bl = (flagR (textR 20 (numR 3 sti).2).2).1 := ⟨_, rfl⟩
  rw [← hs3] at gR4
  rw [← hbl]
  have hact : actR key sti = ((⟨(numR 3 sti).1, key, (textR 20 (numR 3 sti).2).1, if bl then -(numR 1073741824 s3).1 else (numR 1073741824 s3).1⟩, !bl || decide (0 < (numR 1073741824 s3).1)), (numR 1073741824 s3).2) := by rw [hs3, hbl]; rfl
  obtain ⟨hm0, hm1⟩ := numR_bd 1073741824 s3 (by omega)
  generalize hm : (numR 1073741824 s3).1 = m at hm0 hm1 hact
  have hneg : IntKind.i64.wrap (0 - m) = -m := by rw [wr64 (by omega) (by omega)]; omega
  -- what stands between this round's beginning and the last append
  refine w_cut (fun g HX => g 0 = .pointer (some ⟨p, 0, none⟩) ∧ g 1 = .string key ∧ g 9 = .int .i64 n ∧ g 10 = .int .i64 i ∧ g 4 = u ∧ g 6 = .pointer (some ⟨G2.size, 0, none⟩) ∧ g 5 = .bool (ok && (actR key sti).1.2) ∧ KeepOn (fun x => x ≠ p) H' HX ∧ (∃ vx, Rr S HX p (actR key sti).2 vx) ∧ rdn HX G2.size 0 4 = some [.int .u8 (actR key sti).1.1.kind, .string (actR key sti).1.1.key, .string (actR key sti).1.1.value, .int .i64 (actR key sti).1.1.num]) ?_ ?_
  ·refine w_reg fun K hK => ?_
   simp (disch := omega) only [↓wD, wU, simprocAttr, f0]
   refine w_call (Number_cl (most := 1073741824) gR4) ?_
   rintro _ G5 ⟨rfl, gk5, gv5, gR5⟩
   have gk35 := gk4.trans gk5
   have ho5 := Own_block (gk35.2 _ hb3 hne6) ho3
   have hr5 := rdn_block (gk35.2 _ hb3 hne6) hr3
   have hr5 : rdn G5 G2.size 0 4 = some [.int .u8 (numR 3 sti).1, .string key, .string (textR 20 (numR 3 sti).2).1, .int .i64 0] := hr5
   obtain ⟨x0, x1, x2, x3⟩ := rdn4 hr5
   simp only [Nat.zero_add] at x0 x1 x2 x3
   have hf3 : frz G5 G2.size 3 = false := by have := (ho5 3 (by simp)).2; simpa using this
   have hk5 : KeepOn (fun x => x ≠ p) H' G5 := ((gk1.trans gk2).trans (hE3.on _)).trans gk35
   rw [hm]
   simp (disch := omega) only [↓wD, wU, simprocAttr, x3, hf3]
   refine hK _ _ ?_
   clear hK K
   have key1 : ∀ (HX : Hp) (z : Int), HX.size = G5.size → (∀ c, c ≠ G2.size → HX[c]? = G5[c]?) → (∀ j, j < 3 → cell HX G2.size j = cell G5 G2.size j) → cell HX G2.size 3 = some (.int .i64 z) → z = (actR key sti).1.1.num →
     KeepOn (fun x => x ≠ p) H' HX ∧ (∃ vx, Rr S HX p (actR key sti).2 vx) ∧ rdn HX G2.size 0 4 = some [.int .u8 (actR key sti).1.1.kind, .string (actR key sti).1.1.key, .string (actR key sti).1.1.value, .int .i64 (actR key sti).1.1.num] := by
    intro HX z hsize hoth hlow h3 hz
    have hSG : ∀ x, x < G5.size → S x ∨ x = p → HX[x]? = G5[x]? := by
     intro x hx hsx
     refine hoth x fun e => ?_
     subst e
     rcases hsx with h | h
     ·have := hR.lt _ h; omega
     ·omega
    refine ⟨⟨by have := hk5.1; omega, fun x hx hxp => by rw [hoth x (by omega), hk5.2 x hx hxp]⟩, ⟨gv5, ?_⟩, ?_⟩
    ·have e : (actR key sti).2 = (numR 1073741824 s3).2 := by rw [hact]
     rw [e]; exact gR5.keep (by omega) hSG
    ·rw [← hz, rd4, Nat.zero_add, Nat.zero_add, Nat.zero_add, hlow 0 (by omega), hlow 1 (by omega), hlow 2 (by omega), h3, x0, x1, x2, hact]
   have step1 : ∀ c, c ≠ G2.size → (putc G5 G2.size 3 (.int .i64 m))[c]? = G5[c]? := fun c hc => putc_ne hc
   have c31 : cell (putc G5 G2.size 3 (.int .i64 m)) G2.size 3 = some (.int .i64 m) := by rw [cell_putc, if_pos ⟨rfl, rfl⟩, x3]; rfl
   refine w_seq ?_
   refine w_reg fun K hK => ?_; simp (disch := omega) only [↓wD, wU, simprocAttr]; refine hK _ _ ?_; clear hK K
   cases bl with
   | false =>
    refine wf ?_
    refine w_skip ?_
    (with_reducible repeat first | apply q_n | apply q_e | apply q_r | apply bq_n | apply bq_e | apply bq_r | apply bq_o rfl)
    have ez : (actR key sti).1.2 = true := by rw [hact]; rfl
    obtain ⟨r1, r2, r3⟩ := key1 _ m (by rw [putc_size]) step1 (fun j hj => by rw [cell_putc, if_neg (by omega)]) c31 (by rw [hact]; rfl)
    rw [ez, Bool.and_true]
    exact ⟨(by simp only [wL, Nat.reduceBEq, f0]), (by simp only [wL, Nat.reduceBEq, f1]), (by simp only [wL, Nat.reduceBEq, f9]), (by simp only [wL, Nat.reduceBEq, f10]), (by simp only [wL, Nat.reduceBEq, f4]), (by simp only [wL, Nat.reduceBEq]), (by simp only [wL, Nat.reduceBEq, f5]), r1, r2, r3⟩
   | true =>
    refine wt ?_
    have ez : (actR key sti).1.2 = decide (0 < m) := by rw [hact]; rfl
    have f31 : frz (putc G5 G2.size 3 (.int .i64 m)) G2.size 3 = false := by rw [frz_putc]; exact hf3
    obtain ⟨r1, r2, r3⟩ := key1 (putc (putc G5 G2.size 3 (.int .i64 m)) G2.size 3 (.int .i64 (-m))) (-m) (by rw [putc_size, putc_size]) (fun c hc => (putc_ne hc).trans (step1 c hc)) (fun j hj => by rw [cell_putc, if_neg (by omega), cell_putc, if_neg (by omega)]) (by rw [cell_putc, if_pos ⟨rfl, rfl⟩, c31]; rfl) (by rw [hact]; rfl)
    cases ok with
    | true =>
     refine w_reg fun K hK => ?_; simp (disch := omega) only [↓wD, wU, simprocAttr, f5, c31]; refine hK _ _ ?_; clear hK K
     refine w_reg1 fun K hK => ?_; simp (disch := omega) only [↓wD, wU, simprocAttr, c31, f31, hneg]; refine hK _ _ ?_; clear hK K
     (with_reducible repeat first | apply q_n | apply q_e | apply q_r | apply bq_n | apply bq_e | apply bq_r | apply bq_o rfl)
     rw [ez, Bool.true_and]
     exact ⟨(by simp only [wL, Nat.reduceBEq, f0]), (by simp only [wL, Nat.reduceBEq, f1]), (by simp only [wL, Nat.reduceBEq, f9]), (by simp only [wL, Nat.reduceBEq, f10]), (by simp only [wL, Nat.reduceBEq, f4]), (by simp only [wL, Nat.reduceBEq]), (by simp only [wL, Nat.reduceBEq]), r1, r2, r3⟩
    | false =>
     refine w_reg fun K hK => ?_; simp (disch := omega) only [↓wD, wU, simprocAttr, f5, c31]; refine hK _ _ ?_; clear hK K
     refine w_reg1 fun K hK => ?_; simp (disch := omega) only [↓wD, wU, simprocAttr, c31, f31, hneg]; refine hK _ _ ?_; clear hK K
     (with_reducible repeat first | apply q_n | apply q_e | apply q_r | apply bq_n | apply bq_e | apply bq_r | apply bq_o rfl)
     rw [Bool.false_and]
     exact ⟨(by simp only [wL, Nat.reduceBEq, f0]), (by simp only [wL, Nat.reduceBEq, f1]), (by simp only [wL, Nat.reduceBEq, f9]), (by simp only [wL, Nat.reduceBEq, f10]), (by simp only [wL, Nat.reduceBEq, f4]), (by simp only [wL, Nat.reduceBEq]), (by simp only [wL, Nat.reduceBEq]), r1, r2, r3⟩
  ·rintro g HX ⟨g0, g1, g9, g10, g4, g6, g5, hkX, ⟨vx, hRX⟩, hrX⟩
   obtain ⟨ua, uc, eu⟩ := hrow.form
   have hsX := hkX.1
   have hM'p : ∀ x, M' x → x ≠ p := fun x hx => by have := (hM' x hx).1; omega
   have hrowX := hrow.mono (M' := M') (H' := HX) (fun _ h => h) hsX fun x hx hx' => hkX.2 x hx' (hM'p x hx)
   obtain ⟨x0, x1, x2, x3⟩ := rdn4 hrX
   simp only [Nat.zero_add] at x0 x1 x2 x3
   have hcl1 : ([.int .u8 (actR key sti).1.1.kind, .string (actR key sti).1.1.key, .string (actR key sti).1.1.value, .int .i64 (actR key sti).1.1.num] : List Value).length = 4 ∧ One [.int .u8 (actR key sti).1.1.kind, .string (actR key sti).1.1.key, .string (actR key sti).1.1.value, .int .i64 (actR key sti).1.1.num] := by
    refine ⟨rfl, fun v hv => ?_⟩
    simp at hv
    rcases hv with rfl | rfl | rfl | rfl <;> rfl
   have hE6 := (Ext.refl HX).push (.cells #[.int .u8 (actR key sti).1.1.kind, .string (actR key sti).1.1.key, .string (actR key sti).1.1.value, .int .i64 (actR key sti).1.1.num] 98)
   have hrow6 := hrowX.mono (M' := M') (fun _ h => h) hE6.1 fun x hx hx' => hE6.2 x hx'
   refine w_reg1 fun K hK => ?_
   subst eu
   simp (disch := omega) only [↓wD, wU, simprocAttr, g4, g6, x0, x1, x2, x3, as_one]
   refine app_one hrow6 (fun x hx => by have := (hM' x hx).2; simp; omega) hcl1 rfl (by decide) (by omega) ?_ rfl
   intro v7 H7 hrow7 hk7 hs7
   simp only [↓wD, wU, simprocAttr]
   refine hK _ _ ?_
   (with_reducible repeat first | apply q_n | apply q_e | apply q_r | apply bq_n | apply bq_e | apply bq_r | apply bq_o rfl)
   refine w_reg1 fun K hK => ?_; simp (disch := omega) only [↓wD, wU, simprocAttr, g10]; refine hK _ _ ?_; clear hK K
   (with_reducible repeat first | apply q_n | apply q_e | apply q_r | apply bq_n | apply bq_e | apply bq_r | apply bq_o rfl)
   have hs7' := hk7.1
   have hs6' : (HX.push (.cells #[.int .u8 (actR key sti).1.1.kind, .string (actR key sti).1.1.key, .string (actR key sti).1.1.value, .int .i64 (actR key sti).1.1.num] 98)).size = HX.size + 1 := by simp
   have keep7 : ∀ x, x < HX.size → ¬ M' x → H7[x]? = HX[x]? := fun x hx hm => by rw [hk7.2 x (by omega) hm, hE6.2 x hx]
   have hEl : ElAc [.int .u8 (actR key sti).1.1.kind, .string (actR key sti).1.1.key, .string (actR key sti).1.1.value, .int .i64 (actR key sti).1.1.num] (actR key sti).1.1 := by
    refine ⟨rfl, ?_, ?_, ?_, ?_⟩
    ·exact ⟨hb1.1, Int.le_trans hb1.2 (by omega)⟩
    ·rw [hact]; simp only
     cases bl
     ·exact ⟨by simp; omega, by simp; omega⟩
     ·exact ⟨by simp; omega, by simp; omega⟩
    ·exact hk
    ·exact hsz.1
   refine ⟨n - (i + 1), by omega, (by simp only [wL, Nat.reduceBEq, g0]), (by simp only [wL, Nat.reduceBEq, g1]), (by simp only [wL, Nat.reduceBEq, g9]), i + 1, L ++ [(actR key sti).1.1], (ok && (actR key sti).1.2), (actR key sti).2, vx, v7, _, css ++ [[.int .u8 (actR key sti).1.1.kind, .string (actR key sti).1.1.key, .string (actR key sti).1.1.value, .int .i64 (actR key sti).1.1.num]], (by simp only [wL, Nat.reduceBEq]), by omega, rfl, (by simp only [wL, Nat.reduceBEq]), (by simp only [wL, Nat.reduceBEq, g5]), ?_, ?_, ?_, hrow7.lt, by simp [hcl], ?_, by simp [hLi], ?_⟩
   ·exact ⟨by omega, fun x hx hxp => by rw [keep7 x (by omega) (fun hm => by have := (hM' x hm).1; omega), hkX.2 x (by omega) hxp, hkA.2 x hx hxp]⟩
   ·refine hRX.keep (by omega) fun x hx hsx => keep7 x hx fun hm => ?_
    have h1 := (hM' x hm).1
    rcases hsx with h2 | h2
    ·have := h.lt x h2; omega
    ·omega
   ·rintro x ⟨hx | hx, hx2⟩
    ·exact ⟨(hM' x hx).1, hx2⟩
    ·exact ⟨by omega, hx2⟩
   ·intro j hj hl
    by_cases hjl : j < css.length
    ·rw [List.getElem_append_left hjl, List.getElem_append_left (by omega)]
     exact hel j hjl (by omega)
    ·simp only [List.length_append, List.length_cons, List.length_nil] at hj hl
     rw [List.getElem_append_right (by omega), List.getElem_append_right (by omega)]
     have e1 : j - css.length = 0 := by omega
     have e2 : j - L.length = 0 := by omega
     simp only [e1, e2, List.getElem_cons_zero]
     exact hEl
   ·rw [← hD]
    have : n - i = (n - (i + 1)) + 1 := by omega
    rw [this, actsL]
 ·refine w_reg fun K hK => ?_; simp (disch := omega) only [↓wD, wU, simprocAttr, f9, f10, hil]; refine hK _ _ ?_; clear hK K
  refine w_seq ?_
  refine wf ?_
  refine w_exit ?_
  (with_reducible repeat first | apply q_n | apply q_e | apply q_r | apply bq_n | apply bq_e | apply bq_r | apply bq_o rfl)
  have e : n - i = 0 := by omega
  rw [e, actsL] at hD
  obtain ⟨ua, uc, rfl⟩ := hrow.form
  refine w_reg fun K hK => ?_; simp (disch := omega) only [↓wD, wU, simprocAttr, f4, f5]; refine hK _ _ ?_; clear hK K
  refine w_ret ?_
  (with_reducible repeat first | apply q_n | apply q_e | apply q_r | apply bq_n | apply bq_e | apply bq_r | apply bq_o rfl)
  refine ret2 (by (try simp only [wL, Nat.reduceBEq]); rfl) (by (try simp only [wL, Nat.reduceBEq]); rfl) ?_
  rw [eR, ← hD]
  exact ⟨⟨hkA, vi, hR⟩, _, M', rfl, hM', hrow.slp hcl (by rw [hLi]; unfold big; omega) hel⟩
end Go.WK
/-
 One hold out of bytes.
-/
namespace Go.WK
open Go Go.Proofs

def readR (key : ByteArray) (st : St) : Rd × St := (⟨key, (flagR st).1, (textR 20 (flagR st).2).1⟩, (textR 20 (flagR st).2).2)
def readsL (key : ByteArray) : Nat → List Rd → St → List Rd × St
 | 0, l, st => (l, st)
 | n + 1, l, st => readsL key n (l ++ [(readR key st).1]) (readR key st).2
def readsR (key : ByteArray) (st : St) : List Rd × St := readsL key (numR 6 st).1.toNat [] (numR 6 st).2
def hdR (st : St) : (Hd × Bool) × St :=
 let k := textR 20 st
 let c := numR 8 k.2
 let n := numR 1073741824 c.2
 let a := actsR k.1 n.2
 let r := readsR k.1 a.2
 let b := flagR r.2
 let v := textR 20 b.2
 ((⟨k.1, ⟨c.1, n.1⟩, a.1.1, r.1, b.1, v.1⟩, a.1.2 && rightB ⟨k.1, ⟨c.1, n.1⟩, a.1.1, r.1, b.1, v.1⟩), v.2)
/-- A block of one's own that is written, cell by cell. -/
structure Bk (H : Hp) (b : Nat) (cs : List Value) : Prop where
 rd : rdn H b 0 cs.length = some cs
 fz : ∀ i, frz H b i = false
theorem Bk.keep {H H' : Hp} {b : Nat} {cs : List Value} (h : Bk H b cs) (e : H'[b]? = H[b]?) : Bk H' b cs := ⟨rdn_block e h.rd, fun i => (frz_block e i).trans (h.fz i)⟩
theorem Bk.cell {H : Hp} {b : Nat} {cs : List Value} (h : Bk H b cs) (j : Nat) (hj : j < cs.length) : cell H b j = some cs[j] := by
 have := (rdn_spec h.rd).2 j hj
 rw [Nat.zero_add] at this
 rw [this, List.getElem?_eq_getElem hj]
theorem Bk.put {H : Hp} {b : Nat} {cs : List Value} (h : Bk H b cs) (j : Nat) (v : Value) (hj : j < cs.length) : Bk (putc H b j v) b (cs.set j v) := by
 refine ⟨rdn_of (by simp) fun i hi => ?_, fun i => by rw [frz_putc]; exact h.fz i⟩
 simp only [List.length_set] at hi
 rw [Nat.zero_add, cell_putc]
 by_cases e : i = j
 ·subst e
  rw [if_pos ⟨rfl, rfl⟩, h.cell i hj, List.getElem?_set_self hj]; rfl
 ·rw [if_neg (fun h => e h.2), h.cell i hi, List.getElem?_set_ne (fun h => e h.symm), List.getElem?_eq_getElem hi]
theorem Bk.new (H : Hp) (cs : List Value) (t : Nat) : Bk (H.push (.cells cs.toArray t)) H.size cs :=
 ⟨by rw [rdn_new H cs t 0 cs.length (by omega)]; simp, fun i => frz_new H cs t i⟩
theorem putc_keep (H : Hp) (b j : Nat) (v : Value) : KeepOn (fun x => x ≠ b) H (putc H b j v) := ⟨by rw [putc_size]; exact Nat.le_refl _, fun x _ hx => putc_ne hx⟩
theorem Rr.putc {S : Nat → Prop} {H : Hp} {p : Nat} {st : St} {v : Value} (h : Rr S H p st v) (b j : Nat) (u : Value) (hb : ¬ S b ∧ b ≠ p) : Rr S (Go.WK.putc H b j u) p st v :=
 h.keep (by rw [putc_size]; exact Nat.le_refl _) fun x _ hx => putc_ne fun e => by subst e; exact hx.elim hb.1 hb.2
theorem Bk.at {H : Hp} {b t : Nat} {cs : List Value} (h : H[b]? = some (.cells cs.toArray t)) : Bk H b cs := by
 refine ⟨rdn_of rfl fun j hj => ?_, fun i => ?_⟩
 ·simp only [Go.WK.cell, h, Nat.zero_add, List.getElem?_toArray]
 ·simp only [frz, h]; simp
theorem Bk.own {H : Hp} {b : Nat} {cs : List Value} (h : Bk H b cs) : Own H b 0 cs.length := fun j hj => by
 rw [Nat.zero_add, h.cell j hj]
 exact ⟨rfl, h.fz j⟩
theorem Bk.lt {H : Hp} {b : Nat} {cs : List Value} (h : Bk H b cs) (hc : 0 < cs.length) : b < H.size := cell_lt (h.cell 0 hc)
set_option maxHeartbeats 4000000 in
theorem hold_cl {S : Nat → Prop} {H : Hp} {p : Nat} {st : St} {v : Value} (h : Rr S H p st v) :
  Cl Tryz.prog 75 [.pointer (some ⟨p, 0, none⟩)] H fun r H' => RrP S H p (hdR st).2 H' ∧ ∃ (cs : List Value) (G : Nat → Prop), r = .tuple #[.agg cs.toArray, .bool (hdR st).1.2] ∧ (∀ x, G x → H.size ≤ x ∧ x < H'.size) ∧ ElHd G H' cs (hdR st).1.1 := by
 refine cl_of mixed c_holds_hold (Nat.le_of_ble_eq_true rfl) ?_
 simp only [fwp, ir_holds_hold, argF, Nat.reduceAdd]
 have hp := cell_lt h.c0
 obtain ⟨k, hk⟩ : ∃ k, k = textR 20 st := ⟨_, rfl⟩
 obtain ⟨c, hc⟩ : ∃ c, c = numR 8 k.2 := ⟨_, rfl⟩
 obtain ⟨n, hn⟩ : ∃ n, n = numR 1073741824 c.2 := ⟨_, rfl⟩
 obtain ⟨a, ha⟩ : ∃ a, a = actsR k.1 n.2 := ⟨_, rfl⟩
 obtain ⟨r, hr⟩ : ∃ r, r = readsR k.1 a.2 := ⟨_, rfl⟩
 obtain ⟨b, hb⟩ : ∃ b, b = flagR r.2 := ⟨_, rfl⟩
 obtain ⟨w, hw⟩ : ∃ w, w = textR 20 b.2 := ⟨_, rfl⟩
 have eR : hdR st = ((⟨k.1, ⟨c.1, n.1⟩, a.1.1, r.1, b.1, w.1⟩, a.1.2 && rightB ⟨k.1, ⟨c.1, n.1⟩, a.1.1, r.1, b.1, w.1⟩), w.2) := by
  subst hw hb hr ha hn hc hk; rfl
 rw [eR]
 clear eR
 have hkz := textR_sz 20 st (by omega) (by omega)
 rw [← hk] at hkz
 have hcb := numR_bd 8 k.2 (by omega)
 rw [← hc] at hcb
 have hnb := numR_bd 1073741824 c.2 (by omega)
 rw [← hn] at hnb
 refine w_reg fun K hK => ?_; simp (disch := omega) only [↓wD, wU, simprocAttr]; refine hK _ _ ?_; clear hK K
 have hE0 : Ext H (H.push (.cells #[.string .empty, .int .i64 0, .int .i64 0, .slice none 0 0, .slice none 0 0, .bool false, .string .empty] 35)) := (Ext.refl _).push _
 have hB0 := Bk.new H [.string .empty, .int .i64 0, .int .i64 0, .slice none 0 0, .slice none 0 0, .bool false, .string .empty] 35
 have hs0 : (H.push (.cells #[.string .empty, .int .i64 0, .int .i64 0, .slice none 0 0, .slice none 0 0, .bool false, .string .empty] 35)).size = H.size + 1 := by simp
 generalize H.push (.cells #[.string .empty, .int .i64 0, .int .i64 0, .slice none 0 0, .slice none 0 0, .bool false, .string .empty] 35) = H0 at hE0 hB0 hs0 ⊢
 obtain ⟨B, hBe⟩ : ∃ B, B = H.size := ⟨_, rfl⟩
 rw [← hBe] at hB0 ⊢
 have hBp : B ≠ p := by omega
 have hBS : ¬ S B ∧ B ≠ p := ⟨fun hs => by have := h.lt _ hs; omega, hBp⟩
 -- the key
 refine w_reg fun K hK => ?_
 simp (disch := omega) only [↓wD, wU, simprocAttr]
 refine w_call (Text_cl (most := 20) (h.ext hE0)) ?_
 rintro _ H1 ⟨rfl, hk1, v1, hR1⟩
 rw [← hk] at hR1 ⊢
 have hB1 := hB0.keep (hk1.2 B (by omega) hBp)
 simp (disch := omega) only [↓wD, wU, simprocAttr, hB1.cell 0 (by simp), hB1.fz]
 refine hK _ _ ?_
 clear hK K
 have hB1' := hB1.put 0 (.string k.1) (by simp)
 have hR1' := hR1.putc B 0 (.string k.1) hBS
 have hk1' : KeepOn (fun x => x ≠ p ∧ x ≠ B) H0 (putc H1 B 0 (.string k.1)) := ⟨Nat.le_trans hk1.1 (putc_keep H1 B 0 _).1, fun x hx hxp => by rw [(putc_keep H1 B 0 _).2 x (Nat.lt_of_lt_of_le hx hk1.1) hxp.2, hk1.2 x hx hxp.1]⟩
 generalize putc H1 B 0 (.string k.1) = G1 at hB1' hR1' hk1' ⊢
 simp only [List.set_cons_zero] at hB1'
 clear hk1 hB1 hR1
 -- the name
 refine w_reg fun K hK => ?_
 simp (disch := omega) only [↓wD, wU, simprocAttr]
 refine w_call (Number_cl (most := 8) hR1') ?_
 rintro _ H2 ⟨rfl, hk2, v2, hR2⟩
 rw [← hc] at hR2 ⊢
 have hs1 := hk1'.1
 have hB2 := hB1'.keep (hk2.2 B (by omega) hBp)
 simp (disch := omega) only [↓wD, wU, simprocAttr, hB2.cell 1 (by simp), hB2.fz]
 refine hK _ _ ?_
 clear hK K
 have hB2' := hB2.put 1 (.int .i64 c.1) (by simp)
 have hR2' := hR2.putc B 1 (.int .i64 c.1) hBS
 have hk2' : KeepOn (fun x => x ≠ p ∧ x ≠ B) H0 (putc H2 B 1 (.int .i64 c.1)) := ⟨by rw [putc_size]; exact Nat.le_trans hk1'.1 hk2.1, fun x hx hxp => by rw [(putc_keep H2 B 1 _).2 x (Nat.lt_of_lt_of_le hx (Nat.le_trans hk1'.1 hk2.1)) hxp.2, hk2.2 x (Nat.lt_of_lt_of_le hx hk1'.1) hxp.1, hk1'.2 x hx hxp]⟩
 generalize putc H2 B 1 (.int .i64 c.1) = G2 at hB2' hR2' hk2' ⊢
 simp only [List.set_cons_succ, List.set_cons_zero] at hB2'
 clear hk2 hB2 hR2 hB1' hR1' hk1' hs1
 refine w_reg fun K hK => ?_
 simp (disch := omega) only [↓wD, wU, simprocAttr]
 refine w_call (Number_cl (most := 1073741824) hR2') ?_
 rintro _ H3 ⟨rfl, hk3, v3, hR3⟩
 rw [← hn] at hR3 ⊢
 have hs2 := hk2'.1
 have hB3 := hB2'.keep (hk3.2 B (by omega) hBp)
 simp (disch := omega) only [↓wD, wU, simprocAttr, hB3.cell 2 (by simp), hB3.fz]
 refine hK _ _ ?_
 clear hK K
 have hB3' := hB3.put 2 (.int .i64 n.1) (by simp)
 have hR3' := hR3.putc B 2 (.int .i64 n.1) hBS
 have hk3' : KeepOn (fun x => x ≠ p ∧ x ≠ B) H0 (putc H3 B 2 (.int .i64 n.1)) := ⟨by rw [putc_size]; exact Nat.le_trans hk2'.1 hk3.1, fun x hx hxp => by rw [(putc_keep H3 B 2 _).2 x (Nat.lt_of_lt_of_le hx (Nat.le_trans hk2'.1 hk3.1)) hxp.2, hk3.2 x (Nat.lt_of_lt_of_le hx hk2'.1) hxp.1, hk2'.2 x hx hxp]⟩
 generalize putc H3 B 2 (.int .i64 n.1) = G3 at hB3' hR3' hk3' ⊢
 simp only [List.set_cons_succ, List.set_cons_zero] at hB3'
 clear hk3 hB3 hR3 hB2' hR2' hk2' hs2
 -- the acts
 refine w_reg fun K hK => ?_
 simp (disch := omega) only [↓wD, wU, simprocAttr, hB3'.cell 0 (by simp), List.getElem_cons_zero]
 refine w_call (acts_cl hR3' hkz.1) ?_
 rintro _ H4 ⟨⟨hk4, v4, hR4⟩, ua, Ma, rfl, hMa, haa⟩
 rw [← ha] at hR4 haa ⊢
 have hs3 := hk3'.1
 have hB4 := hB3'.keep (hk4.2 B (by omega) hBp)
 obtain ⟨aa, aac, rfl, haac, -⟩ := haa.form
 simp (disch := omega) only [↓wD, wU, simprocAttr, hB4.cell 3 (by simp), hB4.fz]
 refine hK _ _ ?_
 clear hK K
 have hB4' := hB4.put 3 (.slice aa a.1.1.length aac) (by simp)
 have hR4' := hR4.putc B 3 (.slice aa a.1.1.length aac) hBS
 have hk4' : KeepOn (fun x => x ≠ p ∧ x ≠ B) H0 (putc H4 B 3 (.slice aa a.1.1.length aac)) := ⟨by rw [putc_size]; exact Nat.le_trans hk3'.1 hk4.1, fun x hx hxp => by rw [(putc_keep H4 B 3 _).2 x (Nat.lt_of_lt_of_le hx (Nat.le_trans hk3'.1 hk4.1)) hxp.2, hk4.2 x (Nat.lt_of_lt_of_le hx hk3'.1) hxp.1, hk3'.2 x hx hxp]⟩
 have hMa' : ∀ x, Ma x → H0.size ≤ x ∧ x < (putc H4 B 3 (.slice aa a.1.1.length aac)).size := fun x hx => ⟨Nat.le_trans hs3 (hMa x hx).1, by rw [putc_size]; exact (hMa x hx).2⟩
 have haa' : AcSl Ma (putc H4 B 3 (.slice aa a.1.1.length aac)) (.slice aa a.1.1.length aac) a.1.1 := haa.mono (fun _ h => h) (fun x hx _ => putc_ne fun e => by have := (hMa x hx).1; omega) fun _ _ _ h => h
 generalize putc H4 B 3 (.slice aa a.1.1.length aac) = G4 at hB4' hR4' hk4' hMa' haa' ⊢
 simp only [List.set_cons_succ, List.set_cons_zero] at hB4'
 clear hk4 hB4 hR4 hB3' hR3' hk3' hs3 haa hMa
 -- the reads
 refine w_seq (w_seq ?_)
 refine w_reg fun K hK => ?_
 simp (disch := omega) only [↓wD, wU, simprocAttr]
 refine w_call (Number_cl (most := 6) hR4') ?_
 rintro _ H5 ⟨rfl, hk5, v5, hR5⟩
 obtain ⟨hr0, hr6⟩ := numR_bd 6 a.2 (by omega)
 obtain ⟨rn, hrn⟩ : ∃ rn : Nat, (numR 6 a.2).1 = rn := ⟨(numR 6 a.2).1.toNat, by omega⟩
 have eR : r = readsL k.1 rn [] (numR 6 a.2).2 := by rw [hr]; unfold readsR; rw [hrn, Int.toNat_natCast]
 rw [hrn] at hr6
 have hs4 := hk4'.1
 have hB5 := hB4'.keep (hk5.2 B (by omega) hBp)
 have hk5' : KeepOn (fun x => x ≠ p ∧ x ≠ B) H0 H5 := ⟨Nat.le_trans hk4'.1 hk5.1, fun x hx hxp => by rw [hk5.2 x (Nat.lt_of_lt_of_le hx hk4'.1) hxp.1, hk4'.2 x hx hxp]⟩
 have haa5 : AcSl Ma H5 (.slice aa a.1.1.length aac) a.1.1 := haa'.mono (fun _ h => h) (fun x hx hx' => hk5.2 x hx' fun e => by have := (hMa' x hx).1; omega) fun _ _ _ h => h
 simp (disch := omega) only [↓wD, wU, simprocAttr, hrn]
 refine hK _ _ ?_
 clear hK K
 have hs5 := hk5'.1
 have hMa5 : ∀ x, Ma x → H0.size ≤ x ∧ x < H5.size := fun x hx => ⟨(hMa' x hx).1, Nat.lt_of_lt_of_le (hMa' x hx).2 hk5.1⟩
 clear hk4' hB4' hR4' haa' hk5 hMa'
 refine w_blk (w_loop (fun n' f H' => f 0 = .pointer (some ⟨p, 0, none⟩) ∧ f 2 = .pointer (some ⟨B, 0, none⟩) ∧ f 3 = .bool a.1.2 ∧ f 25 = .int .i64 rn ∧ ∃ (i : Nat) (L : List Rd) (sti : St) (vi u : Value) (M' : Nat → Prop) (css : List (List Value)), f 26 = .int .i64 i ∧ i ≤ rn ∧ n' = rn - i ∧ KeepOn (fun x => x ≠ p ∧ x ≠ B) H0 H' ∧ Bk H' B [.string k.1, .int .i64 c.1, .int .i64 n.1, .slice aa a.1.1.length aac, u, .bool false, .string .empty] ∧ Rr S H' p sti vi ∧ (∀ x, M' x → H5.size ≤ x ∧ x < H'.size) ∧ Row M' H' 3 u css ∧ css.length = L.length ∧ (∀ j (hj : j < css.length) (hl : j < L.length), ElRd css[j] L[j]) ∧ L.length = i ∧ readsL k.1 (rn - i) L sti = r ∧ AcSl Ma H' (.slice aa a.1.1.length aac) a.1.1 ∧ H5.size ≤ H'.size) rn ⟨(by simp only [wL, Nat.reduceBEq]), (by simp only [wL, Nat.reduceBEq]), (by simp only [wL, Nat.reduceBEq]), (by simp only [wL, Nat.reduceBEq]), 0, [], _, v5, _, fun _ => False, [], (by simp only [wL, Nat.reduceBEq]; rfl), Nat.zero_le _, rfl, hk5', hB5, hR5, fun _ h => h.elim, Row.nil, rfl, fun j hj => by simp at hj, rfl, eR.symm, haa5, Nat.le_refl _⟩ ?_)
 clear hk5' hB5 hR5 haa5
 rintro n' f H' ⟨f0, f2, f3, f25, i, L, sti, vi, u, M', css, f26, hi, rfl, hkA, hBA, hR, hM', hrow, hcl, hel, hLi, hD, haa, hsA⟩
 have hp' := cell_lt hR.c0
 have hBl := hBA.lt (by simp)
 by_cases hil : i < rn
 ·refine w_reg fun K hK => ?_; simp (disch := omega) only [↓wD, wU, simprocAttr, f25, f26, hil]; refine hK _ _ ?_; clear hK K
  refine w_seq ?_
  refine wt ?_
  refine w_skip ?_
  (with_reducible repeat first | apply q_n | apply q_e | apply q_r | apply bq_n | apply bq_e | apply bq_r | apply bq_o rfl)
  refine w_seq (w_blk ?_)
  refine w_alc (fun x => x = B) (fun x => x = p) (fun x hx => hx ▸ hp') fun K hK => ?_
  simp (disch := omega) only [↓a_nil, ↓a_st, ↓a_new, ↓a_box, ↓a_bsl, ↓a_ac, ↓a_ft, ↓a_ff, p_nil, p_new, p_box, p_bsl, ↓ow_s, ↓ow_e, ↓ow_g, ↓l_nil, ↓l_f, ↓l_t, ↓o_s, ↓o_e, ↓o_g, ↓o_ge, ↓k_ld, ↓k_ldn, isemS, ↓wD, wU, simprocAttr, f0, f2, hBA.cell 0 (by simp), List.getElem_cons_zero]
  refine w_ac fun G1 gE1 => ?_
  simp (disch := omega) only [↓a_nil, ↓a_st, ↓a_new, ↓a_box, ↓a_bsl, ↓a_ac, ↓a_ft, ↓a_ff, p_nil, p_new, p_box, p_bsl, ↓ow_s, ↓ow_e, ↓ow_g, ↓l_nil, ↓l_f, ↓l_t, ↓o_s, ↓o_e, ↓o_g, ↓o_ge, ↓k_ld, ↓k_ldn, isemS, ↓wD, wU, simprocAttr, f0]
  refine w_call (Flag_cl (hR.ext gE1)) ?_
  rintro _ G2 ⟨rfl, gk2, gv2, gR2⟩
  simp (disch := omega) only [↓a_nil, ↓a_st, ↓a_new, ↓a_box, ↓a_bsl, ↓a_ac, ↓a_ft, ↓a_ff, p_nil, p_new, p_box, p_bsl, ↓ow_s, ↓ow_e, ↓ow_g, ↓l_nil, ↓l_f, ↓l_t, ↓o_s, ↓o_e, ↓o_g, ↓o_ge, ↓k_ld, ↓k_ldn, isemS, ↓wD, wU, simprocAttr]
  refine ⟨fun x => x = p, fun x hx => .inl hx, fun x hx => hx ▸ cell_lt gR2.c0, gk2.1, fun x hx hh => gk2.2 x hx (hh.elim (fun h => h.1) fun e => by omega), ?_⟩
  simp (disch := omega) only [↓a_nil, ↓a_st, ↓a_new, ↓a_box, ↓a_bsl, ↓a_ac, ↓a_ft, ↓a_ff, p_nil, p_new, p_box, p_bsl, ↓ow_s, ↓ow_e, ↓ow_g, ↓l_nil, ↓l_f, ↓l_t, ↓o_s, ↓o_e, ↓o_g, ↓o_ge, ↓k_ld, ↓k_ldn, isemS, ↓wD, wU, simprocAttr]
  refine w_al fun y G3 gE3 hny hby hFy hAy hcy => ?_
  have hBy := Bk.at (cs := [.string .empty, .bool false, .string .empty]) hcy
  obtain ⟨G4, gw, gW⟩ := wrn_ok (l := [.string k.1, .bool (flagR sti).1, .string .empty]) hBy.own (by intro v hv; simp at hv; rcases hv with rfl | rfl | rfl <;> rfl)
  simp (disch := omega) only [↓a_nil, ↓a_st, ↓a_new, ↓a_box, ↓a_bsl, ↓a_ac, ↓a_ft, ↓a_ff, p_nil, p_new, p_box, p_bsl, ↓ow_s, ↓ow_e, ↓ow_g, ↓l_nil, ↓l_f, ↓l_t, ↓o_s, ↓o_e, ↓o_g, ↓o_ge, ↓k_ld, ↓k_ldn, isemS, ↓wD, wU, simprocAttr, gw]
  refine hK _ _ ?_
  clear hK K
  have gs12 := gE1.1
  have gs2 := gk2.1
  have gs3 := gE3.1
  have hyp : y ≠ p := fun e => hFy e
  have hyn : H'.size ≤ y := hny
  have hB4 : Bk G4 y [.string k.1, .bool (flagR sti).1, .string .empty] := ⟨gW.rdn_at, fun i => by rw [gW.frz]; exact hBy.fz i⟩
  have keep4 : ∀ x, x < H'.size → x ≠ p → G4[x]? = H'[x]? := fun x hx hxp => by
   rw [gW.other x (by omega), gE3.2 x (by omega), gk2.2 x (by omega) hxp, gE1.2 x hx]
  have hS' : ∀ x, S x → x < H.size := h.lt
  have hR4 : Rr S G4 p (flagR sti).2 gv2 := (gR2.ext gE3).keep (by rw [gW.size]; exact Nat.le_refl _) fun x hx hsx => gW.other x (by
   rcases hsx with h | h
   ·have := hS' x h; omega
   ·omega)
  have hs4 : H'.size ≤ G4.size := by rw [gW.size]; omega
  have hy4 := hB4.lt (by simp)
  refine w_reg fun K hK => ?_
  simp (disch := omega) only [↓wD, wU, simprocAttr, f0]
  refine w_call (Text_cl (most := 20) hR4) ?_
  rintro _ G5 ⟨rfl, gk5, gv5, gR5⟩
  have hB5 := hB4.keep (gk5.2 y hy4 hyp)
  have gs5 := gk5.1
  simp (disch := omega) only [↓wD, wU, simprocAttr, hB5.cell 2 (by simp), hB5.fz]
  refine hK _ _ ?_
  clear hK K
  have hB5' := hB5.put 2 (.string (textR 20 (flagR sti).2).1) (by simp)
  have hyS : ¬ S y ∧ y ≠ p := ⟨fun hs => by have := hS' y hs; omega, hyp⟩
  have hR5' := gR5.putc y 2 (.string (textR 20 (flagR sti).2).1) hyS
  have hs5' : (putc G5 y 2 (.string (textR 20 (flagR sti).2).1)).size = G5.size := putc_size _ _ _ _
  have keep5 : ∀ x, x < H'.size → x ≠ p → (putc G5 y 2 (.string (textR 20 (flagR sti).2).1))[x]? = H'[x]? := fun x hx hxp => by
   rw [putc_ne (by omega), gk5.2 x (by omega) hxp, keep4 x hx hxp]
  generalize putc G5 y 2 (.string (textR 20 (flagR sti).2).1) = G6 at hB5' hR5' hs5' keep5 ⊢
  simp only [List.set_cons_succ, List.set_cons_zero] at hB5'
  have er : (readR k.1 sti).1 = ⟨k.1, (flagR sti).1, (textR 20 (flagR sti).2).1⟩ := rfl
  have er2 : (readR k.1 sti).2 = (textR 20 (flagR sti).2).2 := rfl
  have htz := textR_sz 20 (flagR sti).2 (by omega) (by omega)
  rw [← er2] at hR5'
  have hB6 := hBA.keep (keep5 B hBl hBp)
  have hrow6 := hrow.mono (M' := M') (H' := G6) (fun _ h => h) (by omega) fun x hx hx' => keep5 x hx' (by have := (hM' x hx).1; omega)
  obtain ⟨ua, uc, rfl⟩ := hrow.form
  have y0 := hB5'.cell 0 (by simp)
  have y1 := hB5'.cell 1 (by simp)
  have y2 := hB5'.cell 2 (by simp)
  simp only [List.getElem_cons_zero, List.getElem_cons_succ] at y0 y1 y2
  have hB64 := hB6.cell 4 (by simp)
  simp only [List.getElem_cons_zero, List.getElem_cons_succ] at hB64
  have hE7 := (Ext.refl G6).push (.cells #[.string k.1, .bool (flagR sti).1, .string (textR 20 (flagR sti).2).1] 100)
  have hcl1 : ([.string k.1, .bool (flagR sti).1, .string (textR 20 (flagR sti).2).1] : List Value).length = 3 ∧ One [.string k.1, .bool (flagR sti).1, .string (textR 20 (flagR sti).2).1] := by
   refine ⟨rfl, fun v hv => ?_⟩
   simp at hv
   rcases hv with rfl | rfl | rfl <;> rfl
  refine w_reg1 fun K hK => ?_
  simp (disch := omega) only [↓wD, wU, simprocAttr, f2, hB64, y0, y1, y2, as_one]
  refine app_one (hrow6.mono (M' := M') (fun _ h => h) hE7.1 fun x hx hx' => hE7.2 x hx') (fun x hx => by have := (hM' x hx).2; simp; omega) hcl1 rfl (by decide) (by omega) ?_ rfl
  intro v8 H8 hrow8 hk8 hs8
  have hs8' := hk8.1
  have hsp7 : (G6.push (.cells #[.string k.1, .bool (flagR sti).1, .string (textR 20 (flagR sti).2).1] 100)).size = G6.size + 1 := by simp
  have keep8 : ∀ x, x < G6.size → ¬ M' x → H8[x]? = G6[x]? := fun x hx hm => by rw [hk8.2 x (by omega) hm, hE7.2 x hx]
  have hBM : ¬ M' B := fun hm => by have := (hM' B hm).1; omega
  have hpM : ¬ M' p := fun hm => by have := (hM' p hm).1; omega
  have hB8 := hB6.keep (keep8 B (by omega) hBM)
  obtain ⟨va, vc, rfl⟩ := hrow8.form
  simp (disch := omega) only [↓wD, wU, simprocAttr, f2, hB8.cell 4 (by simp), hB8.fz]
  refine hK _ _ ?_
  (with_reducible repeat first | apply q_n | apply q_e | apply q_r | apply bq_n | apply bq_e | apply bq_r | apply bq_o rfl)
  refine w_reg1 fun K hK => ?_; simp (disch := omega) only [↓wD, wU, simprocAttr, f26]; refine hK _ _ ?_; clear hK K
  (with_reducible repeat first | apply q_n | apply q_e | apply q_r | apply bq_n | apply bq_e | apply bq_r | apply bq_o rfl)
  have hB9 := hB8.put 4 (.slice va (css ++ [([.string k.1, .bool (flagR sti).1, .string (textR 20 (flagR sti).2).1] : List Value)]).length vc) (by simp)
  simp only [List.set_cons_succ, List.set_cons_zero] at hB9
  have hs9 : (putc H8 B 4 (.slice va (css ++ [([.string k.1, .bool (flagR sti).1, .string (textR 20 (flagR sti).2).1] : List Value)]).length vc)).size = H8.size := putc_size _ _ _ _
  have hpn : ∀ x, x ≠ B → (putc H8 B 4 (.slice va (css ++ [([.string k.1, .bool (flagR sti).1, .string (textR 20 (flagR sti).2).1] : List Value)]).length vc))[x]? = H8[x]? := fun x hx => putc_ne hx
  generalize putc H8 B 4 (.slice va (css ++ [([.string k.1, .bool (flagR sti).1, .string (textR 20 (flagR sti).2).1] : List Value)]).length vc) = H9 at hB9 hs9 hpn ⊢
  refine ⟨rn - (i + 1), by omega, (by simp only [wL, Nat.reduceBEq, f0]), (by simp only [wL, Nat.reduceBEq, f2]), (by simp only [wL, Nat.reduceBEq, f3]), (by simp only [wL, Nat.reduceBEq, f25]), i + 1, L ++ [(readR k.1 sti).1], (readR k.1 sti).2, gv5, .slice va (css ++ [([.string k.1, .bool (flagR sti).1, .string (textR 20 (flagR sti).2).1] : List Value)]).length vc, fun x => (M' x ∨ x = (G6.push (.cells #[.string k.1, .bool (flagR sti).1, .string (textR 20 (flagR sti).2).1] 100)).size) ∧ x < H8.size, css ++ [([.string k.1, .bool (flagR sti).1, .string (textR 20 (flagR sti).2).1] : List Value)], (by simp only [wL, Nat.reduceBEq]), by omega, rfl, ?_, hB9, ?_, ?_, ?_, by simp [hcl], ?_, by simp [hLi], ?_, ?_, by omega⟩
  ·exact ⟨by omega, fun x hx hxp => by rw [hpn x hxp.2, keep8 x (by omega) (fun hm => by have := (hM' x hm).1; omega), keep5 x (by have := hkA.1; omega) hxp.1, hkA.2 x hx hxp]⟩
  ·refine hR5'.keep (by omega) fun x hx hsx => ?_
   have hxS : x ≠ B ∧ ¬ M' x := by
    rcases hsx with h1 | h1
    ·have := hS' x h1
     exact ⟨by omega, fun hm => by have := (hM' x hm).1; omega⟩
    ·subst h1; exact ⟨fun e => hBp e.symm, hpM⟩
   rw [hpn x hxS.1, keep8 x hx hxS.2]
  ·rintro x ⟨hx | hx, hx2⟩
   ·exact ⟨(hM' x hx).1, by omega⟩
   ·exact ⟨by omega, by omega⟩
  ·exact hrow8.lt.mono (fun _ h => h) (by omega) fun x hx hx' => hpn x fun e => by
    subst e
    rcases hx.1 with h | h
    ·exact hBM h
    ·omega
  ·intro j hj hl
   by_cases hjl : j < css.length
   ·rw [List.getElem_append_left hjl, List.getElem_append_left (by omega)]
    exact hel j hjl (by omega)
   ·simp only [List.length_append, List.length_cons, List.length_nil] at hj hl
    rw [List.getElem_append_right (by omega), List.getElem_append_right (by omega)]
    have e1 : j - css.length = 0 := by omega
    have e2 : j - L.length = 0 := by omega
    simp only [e1, e2, List.getElem_cons_zero]
    exact ⟨rfl, hkz.1, htz.1⟩
  ·rw [← hD]
   have : rn - i = (rn - (i + 1)) + 1 := by omega
   rw [this, readsL]
  ·exact haa.mono (fun _ h => h) (fun x hx hx' => by
    have h1 := hMa5 x hx
    rw [hpn x (by omega), keep8 x (by omega) (fun hm => by have := (hM' x hm).1; omega), keep5 x hx' (by omega)]) fun _ _ _ h => h
 ·refine w_reg fun K hK => ?_; simp (disch := omega) only [↓wD, wU, simprocAttr, f25, f26, hil]; refine hK _ _ ?_; clear hK K
  refine w_seq ?_
  refine wf ?_
  refine w_exit ?_
  (with_reducible repeat first | apply q_n | apply q_e | apply q_r | apply bq_n | apply bq_e | apply bq_r | apply bq_o rfl)
  have e : rn - i = 0 := by omega
  rw [e, readsL] at hD
  subst hD
  simp only at hb ⊢
  have hrr : RdSl M' H' u L := hrow.slp hcl (by rw [hLi]; unfold big; omega) hel
  obtain ⟨ua, uc, eu⟩ := hrow.form
  rw [hcl] at eu
  have hS' : ∀ x, S x → x < H.size := h.lt
  -- put
  refine w_reg fun K hK => ?_
  simp (disch := omega) only [↓wD, wU, simprocAttr, f0]
  refine w_call (Flag_cl hR) ?_
  rintro _ H6 ⟨rfl, gk6, gv6, gR6⟩
  rw [← hb] at gR6 ⊢
  have gs6 := gk6.1
  have hB6 := hBA.keep (gk6.2 B hBl hBp)
  simp (disch := omega) only [↓wD, wU, simprocAttr, f2, hB6.cell 5 (by simp), hB6.fz]
  refine hK _ _ ?_
  clear hK K
  have hB6' := hB6.put 5 (.bool b.1) (by simp)
  simp only [List.set_cons_succ, List.set_cons_zero] at hB6'
  have hR6' := gR6.putc B 5 (.bool b.1) hBS
  have hsz6 : (putc H6 B 5 (.bool b.1)).size = H6.size := putc_size _ _ _ _
  have keep6 : ∀ x, x < H'.size → x ≠ p → x ≠ B → (putc H6 B 5 (.bool b.1))[x]? = H'[x]? := fun x hx hxp hxB => by rw [putc_ne hxB, gk6.2 x hx hxp]
  generalize putc H6 B 5 (.bool b.1) = G6 at hB6' hR6' hsz6 keep6 ⊢
  -- the value
  refine w_reg fun K hK => ?_
  simp (disch := omega) only [↓wD, wU, simprocAttr, f0]
  refine w_call (Text_cl (most := 20) hR6') ?_
  rintro _ H7 ⟨rfl, gk7, gv7, gR7⟩
  have hwz := textR_sz 20 b.2 (by omega) (by omega)
  rw [← hw] at gR7 hwz ⊢
  have gs7 := gk7.1
  have hB7 := hB6'.keep (gk7.2 B (by omega) hBp)
  simp (disch := omega) only [↓wD, wU, simprocAttr, f2, hB7.cell 6 (by simp), hB7.fz]
  refine hK _ _ ?_
  clear hK K
  have hB7' := hB7.put 6 (.string w.1) (by simp)
  simp only [List.set_cons_succ, List.set_cons_zero] at hB7'
  have hR7' := gR7.putc B 6 (.string w.1) hBS
  have hsz7 : (putc H7 B 6 (.string w.1)).size = H7.size := putc_size _ _ _ _
  have keep7 : ∀ x, x < H'.size → x ≠ p → x ≠ B → (putc H7 B 6 (.string w.1))[x]? = H'[x]? := fun x hx hxp hxB => by rw [putc_ne hxB, gk7.2 x (by omega) hxp, keep6 x hx hxp hxB]
  generalize putc H7 B 6 (.string w.1) = G7 at hB7' hR7' hsz7 keep7 ⊢
  clear hB6 hB7 hB6' hR6' gR6 gR7
  have hMB : ∀ x, Ma x ∨ M' x → x < H'.size ∧ x ≠ p ∧ x ≠ B ∧ H0.size ≤ x := by
   rintro x (hx | hx)
   ·have := hMa5 x hx; exact ⟨by omega, by omega, by omega, by omega⟩
   ·have := hM' x hx; exact ⟨by omega, by omega, by omega, by omega⟩
  have haa7 : AcSl (fun x => Ma x ∨ M' x) G7 (.slice aa a.1.1.length aac) a.1.1 := haa.mono (fun _ h => .inl h) (fun x hx hx' => by have := hMB x (.inl hx); exact keep7 x this.1 this.2.1 this.2.2.1) fun _ _ _ h => h
  have hrr7 : RdSl (fun x => Ma x ∨ M' x) G7 u L := hrr.mono (fun _ h => .inr h) (fun x hx hx' => by have := hMB x (.inr hx); exact keep7 x this.1 this.2.1 this.2.2.1) fun _ _ _ h => h
  have hEl : ElHd (fun x => Ma x ∨ M' x) G7 [.string k.1, .int .i64 c.1, .int .i64 n.1, .slice aa a.1.1.length aac, u, .bool b.1, .string w.1] ⟨k.1, ⟨c.1, n.1⟩, a.1.1, L, b.1, w.1⟩ :=
   ⟨_, _, rfl, haa7, hrr7, ⟨⟨by simp only; omega, by simp only; omega⟩, ⟨by simp only; omega, by simp only; omega⟩⟩, hkz.1, hwz.1⟩
  obtain ⟨cs, ecs⟩ : ∃ cs : List Value, cs = [.string k.1, .int .i64 c.1, .int .i64 n.1, .slice aa a.1.1.length aac, u, .bool b.1, .string w.1] := ⟨_, rfl⟩
  rw [← ecs] at hEl
  have b0 := hB7'.cell 0 (by simp)
  have b1 := hB7'.cell 1 (by simp)
  have b2 := hB7'.cell 2 (by simp)
  have b3 := hB7'.cell 3 (by simp)
  have b4 := hB7'.cell 4 (by simp)
  have b5 := hB7'.cell 5 (by simp)
  have b6 := hB7'.cell 6 (by simp)
  simp only [List.getElem_cons_zero, List.getElem_cons_succ] at b0 b1 b2 b3 b4 b5 b6
  have hk07 : KeepOn (fun x => x ≠ p) H G7 := ⟨by have := hkA.1; omega, fun x hx hxp => by rw [keep7 x (by have := hkA.1; omega) hxp (by omega), hkA.2 x (by omega) ⟨hxp, by omega⟩, hE0.2 x hx]⟩
  subst eu
  have one : ∀ v ∈ cs, v.oneCell' = true := by
   rw [ecs]; intro v hv
   simp at hv
   rcases hv with rfl | rfl | rfl | rfl | rfl | rfl | rfl <;> rfl
  have last : ∀ (G8 : Hp), Ext G7 G8 → ∃ G9, wrn G8 B 0 cs = some G9 ∧ Bk G9 B cs ∧ RrP S H p w.2 G9 ∧ (∀ x, (Ma x ∨ M' x) → H.size ≤ x ∧ x < G9.size) ∧ ElHd (fun x => Ma x ∨ M' x) G9 cs ⟨k.1, ⟨c.1, n.1⟩, a.1.1, L, b.1, w.1⟩ := by
   intro G8 hE8
   rw [← ecs] at hB7'
   have hBl7 := hB7'.lt (by rw [ecs]; simp)
   have hB8 := hB7'.keep (hE8.2 B hBl7)
   obtain ⟨G9, hw9, hW9⟩ := wrn_ok hB8.own one
   have hs9 := hW9.size
   have hs8 := hE8.1
   refine ⟨G9, hw9, ⟨hW9.rdn_at, fun i => by rw [hW9.frz]; exact hB8.fz i⟩, ⟨⟨by have := hk07.1; omega, fun x hx hxp => by rw [hW9.other x (by omega), hE8.2 x (by have := hk07.1; omega), hk07.2 x hx hxp]⟩, gv7, (hR7'.ext hE8).keep (by omega) fun x hx hsx => hW9.other x ?_⟩, fun x hx => ?_, ?_⟩
   ·rcases hsx with h1 | h1
    ·have := hS' x h1; omega
    ·omega
   ·have := hMB x hx; exact ⟨by omega, by omega⟩
   ·exact (hEl.ext hE8).mono (fun _ h => h) fun x hx _ => hW9.other x (hMB x hx).2.2.1
  cases hok : a.1.2 with
  | false =>
   obtain ⟨G9, hw9, hB9, hP9, hM9, hE9⟩ := last G7 (Ext.refl _)
   rw [ecs] at hw9 hB9
   rw [hok] at f3
   refine w_lin (fun x => x = B) fun K hK => ?_
   simp (disch := omega) only [↓l_nil, ↓l_f, ↓l_t, ↓o_s, ↓o_e, ↓o_g, ↓o_ge, ↓k_ld, ↓k_ldn, isemS, ↓wD, wU, simprocAttr, f2, f3, b0, b1, b2, b3, b4, b5, b6, hw9]
   refine ⟨(Ext.refl _).on _, ?_⟩
   refine hK _ _ ?_
   clear hK K
   refine w_ret ?_
   (with_reducible repeat first | apply q_n | apply q_e | apply q_r | apply bq_n | apply bq_e | apply bq_r | apply bq_o rfl)
   refine retG (v := .tuple #[.agg cs.toArray, .bool false]) (by
    have := hB9.rd
    simp only [List.length_cons, List.length_nil, Nat.zero_add, Nat.reduceAdd] at this
    simp only [resV, rvsV, rvV, wL, Nat.reduceBEq, f2, this, ecs, Option.map_some, oneOr]) ?_
   rw [Bool.false_and]
   exact ⟨hP9, cs, _, rfl, fun x hx => by have := hM9 x hx; omega, hE9⟩
  | true =>
   rw [hok] at f3
   refine w_lin (fun x => x = B) fun K hK => ?_
   simp (disch := omega) only [↓l_nil, ↓l_f, ↓l_t, ↓o_s, ↓o_e, ↓o_g, ↓o_ge, ↓k_ld, ↓k_ldn, isemS, ↓wD, wU, simprocAttr, f2, f3, b0, b1, b2, b3, b4, b5, b6]
   rw [← ecs]
   refine w_call (hright_cl hEl) ?_
   rintro _ G8 ⟨rfl, hE8⟩
   obtain ⟨G9, hw9, hB9, hP9, hM9, hE9⟩ := last G8 hE8
   rw [ecs] at hw9 hB9
   simp (disch := omega) only [↓l_nil, ↓l_f, ↓l_t, ↓o_s, ↓o_e, ↓o_g, ↓o_ge, ↓k_ld, ↓k_ldn, isemS, ↓wD, wU, simprocAttr, hw9, f2, f3, ecs]
   refine ⟨hE8.on _, ?_⟩
   refine hK _ _ ?_
   clear hK K
   refine w_ret ?_
   (with_reducible repeat first | apply q_n | apply q_e | apply q_r | apply bq_n | apply bq_e | apply bq_r | apply bq_o rfl)
   refine retG (v := .tuple #[.agg cs.toArray, .bool (rightB ⟨k.1, ⟨c.1, n.1⟩, a.1.1, L, b.1, w.1⟩)]) (by
    have := hB9.rd
    simp only [List.length_cons, List.length_nil, Nat.zero_add, Nat.reduceAdd] at this
    simp only [resV, rvsV, rvV, wL, Nat.reduceBEq, f2, this, ecs, Option.map_some, oneOr]) ?_
   rw [Bool.true_and]
   exact ⟨hP9, cs, _, rfl, fun x hx => by have := hM9 x hx; omega, hE9⟩
end Go.WK
/-
 holds.Read.
-/
namespace Go.WK
open Go Go.Proofs

theorem failed_cl {S : Nat → Prop} {H : Hp} {p : Nat} {st : St} {v : Value} (h : Rr S H p st v) : Cl Tryz.prog 76 [.pointer (some ⟨p, 0, none⟩)] H fun r H' => r = .bool st.isNone ∧ H' = H := by
 refine cl_of mixed c_holds_failed (Nat.le_of_ble_eq_true rfl) ?_
 simp only [fwp, ir_holds_failed, argF, Nat.reduceAdd]
 refine w_reg fun K hK => ?_; simp (disch := omega) only [↓wD, wU, simprocAttr]; refine hK _ _ ?_; clear hK K
 refine w_reg fun K hK => ?_
 simp (disch := omega) only [↓wD, wU, simprocAttr]
 refine w_call (Left_cl h) ?_
 rintro _ _ ⟨rfl, rfl⟩
 match st, h with
 | none, h =>
  simp (disch := omega) only [↓wD, wU, simprocAttr, Option.getD_none, List.length_nil]
  refine w_call (End_cl h) ?_
  rintro _ _ ⟨rfl, rfl⟩
  simp (disch := omega) only [↓wD, wU, simprocAttr, endR]
  refine hK _ _ ?_
  clear hK K
  refine w_ret ?_; (with_reducible repeat first | apply q_n | apply q_e | apply q_r | apply bq_n | apply bq_e | apply bq_r | apply bq_o rfl); refine ret1 (by (try simp only [wL, Nat.reduceBEq]); rfl) ?_
  exact ⟨rfl, rfl⟩
 | some [], h =>
  simp (disch := omega) only [↓wD, wU, simprocAttr, Option.getD_some, List.length_nil]
  refine w_call (End_cl h) ?_
  rintro _ _ ⟨rfl, rfl⟩
  simp (disch := omega) only [↓wD, wU, simprocAttr, endR]
  refine hK _ _ ?_
  clear hK K
  refine w_ret ?_; (with_reducible repeat first | apply q_n | apply q_e | apply q_r | apply bq_n | apply bq_e | apply bq_r | apply bq_o rfl); refine ret1 (by (try simp only [wL, Nat.reduceBEq]); rfl) ?_
  exact ⟨rfl, rfl⟩
 | some (x :: l), h =>
  have z : (((l.length + 1 : Nat) : Int) = 0) = False := by simp; omega
  simp (disch := omega) only [↓wD, wU, simprocAttr, Option.getD_some, List.length_cons, z]
  refine hK _ _ ?_
  clear hK K
  refine w_ret ?_; (with_reducible repeat first | apply q_n | apply q_e | apply q_r | apply bq_n | apply bq_e | apply bq_r | apply bq_o rfl); refine ret1 (by (try simp only [wL, Nat.reduceBEq]); rfl) ?_
  exact ⟨rfl, rfl⟩
def badH (l : List Hd) (x : (Hd × Bool) × St) : Bool := !x.1.2 || x.2.isNone || (match l.getLast? with | none => false | some y => !sless y.key x.1.1.key)
def holdsL : Nat → List Hd → St → (List Hd × Bool) × St
 | 0, l, st => ((l, !st.isNone), st)
 | n + 1, l, st => if badH l (hdR st) then (([], false), (hdR st).2) else holdsL n (l ++ [(hdR st).1.1]) (hdR st).2
def holdsR (st : St) : (List Hd × Bool) × St := holdsL (numR 60 st).1.toNat [] (numR 60 st).2
set_option maxHeartbeats 4000000 in
theorem Read_cl {S : Nat → Prop} {H : Hp} {p : Nat} {st : St} {v : Value} (h : Rr S H p st v) :
  Cl Tryz.prog 29 [.pointer (some ⟨p, 0, none⟩)] H fun r H' => RrP S H p (holdsR st).2 H' ∧ ∃ (u : Value) (R : Nat → Prop), r = .tuple #[u, .bool (holdsR st).1.2] ∧ (∀ x, R x → H.size ≤ x ∧ x < H'.size) ∧ HdSl R H' u (holdsR st).1.1 := by
 suffices hh : ∀ n : Nat, (numR 60 st).1 = n → Cl Tryz.prog 29 [.pointer (some ⟨p, 0, none⟩)] H fun r H' => RrP S H p (holdsL n [] (numR 60 st).2).2 H' ∧ ∃ (u : Value) (R : Nat → Prop), r = .tuple #[u, .bool (holdsL n [] (numR 60 st).2).1.2] ∧ (∀ x, R x → H.size ≤ x ∧ x < H'.size) ∧ HdSl R H' u (holdsL n [] (numR 60 st).2).1.1 by
  have hb := numR_bd 60 st (by omega)
  have := hh (numR 60 st).1.toNat (by omega)
  exact this
 intro n hn
 refine cl_of mixed c_holds_Read (Nat.le_of_ble_eq_true rfl) ?_
 simp only [fwp, ir_holds_Read, argF, Nat.reduceAdd]
 have hp := cell_lt h.c0
 refine w_reg fun K hK => ?_; simp (disch := omega) only [↓wD, wU, simprocAttr]; refine hK _ _ ?_; clear hK K
 refine w_reg fun K hK => ?_; simp (disch := omega) only [↓wD, wU, simprocAttr]; refine hK _ _ ?_; clear hK K
 refine w_seq ?_
 refine w_reg fun K hK => ?_
 simp (disch := omega) only [↓wD, wU, simprocAttr]
 refine w_call (Number_cl (most := 60) h) ?_
 rintro _ H1 ⟨rfl, hk1, v1, hR1⟩
 obtain ⟨hn0, hn6⟩ := numR_bd 60 st (by omega)
 rw [hn] at hn6
 simp (disch := omega) only [↓wD, wU, simprocAttr, hn]
 refine hK _ _ ?_
 clear hK K
 refine w_seq ?_
 refine w_reg fun K hK => ?_; simp (disch := omega) only [↓wD, wU, simprocAttr]; refine hK _ _ ?_; clear hK K
 refine w_blk (w_loop (fun n' f H' => f 0 = .pointer (some ⟨p, 0, none⟩) ∧ f 11 = .int .i64 n ∧ ∃ (i : Nat) (L : List Hd) (sti : St) (vi u : Value) (M' G' : Nat → Prop), f 12 = .int .i64 i ∧ i ≤ n ∧ n' = n - i ∧ f 4 = u ∧ KeepOn (fun x => x ≠ p) H H' ∧ Rr S H' p sti vi ∧ (∀ x, M' x ∨ G' x → H.size ≤ x ∧ x < H'.size) ∧ (∀ x, M' x → ¬ G' x) ∧ RowHd M' G' H' u L ∧ L.length = i ∧ holdsL (n - i) L sti = holdsL n [] (numR 60 st).2) n ⟨(by simp only [wL, Nat.reduceBEq]), (by simp only [wL, Nat.reduceBEq]), 0, [], _, v1, _, fun _ => False, fun _ => False, (by simp only [wL, Nat.reduceBEq]; rfl), Nat.zero_le _, rfl, (by simp only [wL, Nat.reduceBEq]), hk1, hR1, fun _ h => h.elim False.elim False.elim, fun _ h => h.elim, RowHd.nil, rfl, rfl⟩ ?_)
 rintro n' f H' ⟨f0, f11, i, L, sti, vi, u, M', G', f12, hi, rfl, f4, hkA, hR, hMG, hdis, hrow, hLi, hD⟩
 by_cases hil : i < n
 ·refine w_reg fun K hK => ?_; simp (disch := omega) only [↓wD, wU, simprocAttr, f11, f12, hil]; refine hK _ _ ?_; clear hK K
  refine w_seq ?_
  refine wt ?_
  refine w_skip ?_
  (with_reducible repeat first | apply q_n | apply q_e | apply q_r | apply bq_n | apply bq_e | apply bq_r | apply bq_o rfl)
  refine w_seq (w_blk ?_)
  have hps := hkA.1
  have hp' := cell_lt hR.c0
  refine w_reg fun K hK => ?_; simp (disch := omega) only [↓wD, wU, simprocAttr, f12]; refine hK _ _ ?_; clear hK K
  refine w_reg fun K hK => ?_
  simp (disch := omega) only [↓wD, wU, simprocAttr, f0]
  refine w_call (hold_cl hR) ?_
  rintro _ G1 ⟨⟨gk1, gv1, gR1⟩, cs, Gn, rfl, hGn, hEl⟩
  have hl7 := hEl.len
  have hB := Bk.new G1 [.string .empty, .int .i64 0, .int .i64 0, .slice none 0 0, .slice none 0 0, .bool false, .string .empty] 35
  have hs1 : (G1.push (.cells #[.string .empty, .int .i64 0, .int .i64 0, .slice none 0 0, .slice none 0 0, .bool false, .string .empty] 35)).size = G1.size + 1 := by simp
  have hE1 : Ext G1 (G1.push (.cells #[.string .empty, .int .i64 0, .int .i64 0, .slice none 0 0, .slice none 0 0, .bool false, .string .empty] 35)) := (Ext.refl _).push _
  obtain ⟨G2, hw2, hW2⟩ := wrn_ok (l := cs) (by rw [hl7]; exact hB.own) hEl.one
  simp (disch := omega) only [↓wD, wU, simprocAttr, hl7, hw2]
  refine hK _ _ ?_
  clear hK K
  generalize G1.push (.cells #[.string .empty, .int .i64 0, .int .i64 0, .slice none 0 0, .slice none 0 0, .bool false, .string .empty] 35) = G1' at hB hs1 hE1 hW2 hw2
  have hB2 : Bk G2 G1.size cs := ⟨hW2.rdn_at, fun i => by rw [hW2.frz]; exact hB.fz i⟩
  have hs2 := hW2.size
  have gs1 := gk1.1
  have keep2 : ∀ x, x < H'.size → x ≠ p → G2[x]? = H'[x]? := fun x hx hxp => by
   rw [hW2.other x (by omega), hE1.2 x (by omega), gk1.2 x hx hxp]
  have keep12 : ∀ x, x < G1.size → G2[x]? = G1[x]? := fun x hx => by rw [hW2.other x (by omega), hE1.2 x hx]
  have hR2 : Rr S G2 p (hdR sti).2 gv1 := gR1.keep (by omega) fun x hx _ => keep12 x hx
  have hEl2 : ElHd Gn G2 cs (hdR sti).1.1 := hEl.mono (fun _ h => h) fun x _ hx => keep12 x hx
  have hrow2 : RowHd M' G' G2 u L := hrow.mono (fun _ h => h) (fun _ h => h) (by omega) fun x hx hx' => keep2 x hx' fun e => by have := hMG x hx; omega
  have hsl2 := hrow2.slp (by unfold big; omega)
  obtain ⟨ua, uc, eu, -, -, hel⟩ := SlP.open hsl2
  obtain ⟨hva, hvr, ecs, -⟩ := hEl2
  have b0 := hB2.cell 0 (by omega)
  have e0 : cs[0]'(by omega) = .string (hdR sti).1.1.key := by simp only [ecs]; rfl
  rw [e0] at b0
  refine w_seq ?_
  refine w_cut (fun g H'' => G2 = H'' ∧ g 40 = .bool (badH L (hdR sti)) ∧ g 0 = .pointer (some ⟨p, 0, none⟩) ∧ g 4 = u ∧ g 7 = .pointer (some ⟨G1.size, 0, none⟩) ∧ g 11 = .int .i64 n ∧ g 12 = .int .i64 i) ?_ ?_
  ·refine w_reg1 fun K hK => ?_
   cases hok : (hdR sti).1.2 with
   | false =>
    simp (disch := omega) only [↓wD, wU, simprocAttr, f0, hok]
    refine hK _ _ ?_
    clear hK K
    (with_reducible repeat first | apply q_n | apply q_e | apply q_r | apply bq_n | apply bq_e | apply bq_r | apply bq_o rfl)
    exact ⟨rfl, (by simp only [wL, Nat.reduceBEq, badH, hok, Bool.not_false, Bool.true_or]), (by simp only [wL, Nat.reduceBEq, f0]), (by simp only [wL, Nat.reduceBEq, f4]), (by simp only [wL, Nat.reduceBEq]), (by simp only [wL, Nat.reduceBEq, f11]), (by simp only [wL, Nat.reduceBEq, f12])⟩
   | true =>
    simp (disch := omega) only [↓wD, wU, simprocAttr, f0, hok]
    refine w_call (failed_cl hR2) ?_
    rintro _ _ ⟨rfl, rfl⟩
    cases hst : (hdR sti).2.isNone with
    | true =>
     simp (disch := omega) only [↓wD, wU, simprocAttr, f0, hst]
     refine hK _ _ ?_
     clear hK K
     (with_reducible repeat first | apply q_n | apply q_e | apply q_r | apply bq_n | apply bq_e | apply bq_r | apply bq_o rfl)
     exact ⟨rfl, (by simp only [wL, Nat.reduceBEq, badH, hok, hst, Bool.not_true, Bool.false_or, Bool.true_or]), (by simp only [wL, Nat.reduceBEq, f0]), (by simp only [wL, Nat.reduceBEq, f4]), (by simp only [wL, Nat.reduceBEq]), (by simp only [wL, Nat.reduceBEq, f11]), (by simp only [wL, Nat.reduceBEq, f12])⟩
    | false =>
     by_cases hi0 : i = 0
     ·have z1 : ((0 : Int) < (i : Int)) = False := by simp [hi0]
      have z2 : (0 < i) = False := by simp [hi0]
      have eL : L = [] := List.length_eq_zero_iff.1 (by omega)
      simp (disch := omega) only [↓wD, wU, simprocAttr, f0, hst, z1, z2]
      refine hK _ _ ?_
      clear hK K
      (with_reducible repeat first | apply q_n | apply q_e | apply q_r | apply bq_n | apply bq_e | apply bq_r | apply bq_o rfl)
      refine ⟨rfl, ?_, (by simp only [wL, Nat.reduceBEq, f0]), (by simp only [wL, Nat.reduceBEq, f4]), (by simp only [wL, Nat.reduceBEq]), (by simp only [wL, Nat.reduceBEq, f11]), (by simp only [wL, Nat.reduceBEq, f12])⟩
      simp only [wL, Nat.reduceBEq, badH, hok, hst, eL, List.getLast?_nil, Bool.not_true, Bool.false_or]
     ·obtain ⟨j, hj⟩ : ∃ j, i = j + 1 := ⟨i - 1, by omega⟩
      have hjl : j < L.length := by omega
      obtain ⟨bj, oj, ebj, -, csj, hcsj, hej⟩ := hel j hjl
      obtain ⟨ya, yr, eyj, -⟩ := hej
      rw [eyj] at hcsj
      have cj := (rdn7 hcsj).1
      have z1 : ((0 : Int) < (i : Int)) = True := by simp; omega
      have z2 : (0 < i) = True := by simp; omega
      have z3 : (i : Int) - 1 = (j : Int) := by omega
      rw [eu] at f4
      subst ebj
      simp (disch := omega) only [↓wD, wU, simprocAttr, f0, f4, hst, z1, z2, z3, hjl, cj, b0]
      refine hK _ _ ?_
      clear hK K
      (with_reducible repeat first | apply q_n | apply q_e | apply q_r | apply bq_n | apply bq_e | apply bq_r | apply bq_o rfl)
      refine ⟨rfl, ?_, (by simp only [wL, Nat.reduceBEq, f0]), (by simp only [wL, Nat.reduceBEq, f4, eu]), (by simp only [wL, Nat.reduceBEq]), (by simp only [wL, Nat.reduceBEq, f11]), (by simp only [wL, Nat.reduceBEq, f12])⟩
      have eL : L.getLast? = some L[j] := by rw [List.getLast?_eq_getElem?, hLi, hj]; simp
      simp only [wL, Nat.reduceBEq, badH, hok, hst, eL, Bool.not_true, Bool.false_or]
  rintro g H'' ⟨rfl, g40, g0, g4, g7, g11, g12⟩
  have e : n - i = (n - (i + 1)) + 1 := by omega
  rw [e, holdsL] at hD
  cases hbad : badH L (hdR sti) with
  | true =>
   rw [hbad] at g40 hD
   simp only [if_true] at hD
   refine w_true (by simp only [wL, Nat.reduceBEq, Bool.not_true, Bool.not_false, g40]) ?_
   refine w_reg fun K hK => ?_; simp (disch := omega) only [↓wD, wU, simprocAttr]; refine hK _ _ ?_; clear hK K
   refine w_ret ?_; (with_reducible repeat first | apply q_n | apply q_e | apply q_r | apply bq_n | apply bq_e | apply bq_r | apply bq_o rfl); refine ret2 (by (try simp only [wL, Nat.reduceBEq]); rfl) (by (try simp only [wL, Nat.reduceBEq]); rfl) ?_
   rw [← hD]
   exact ⟨⟨⟨by omega, fun x hx hxp => by rw [keep2 x (by omega) hxp, hkA.2 x hx hxp]⟩, gv1, hR2⟩, _, fun _ => False, rfl, fun _ h => h.elim, by refine ⟨Nat.zero_le _, .inl ⟨_, rfl, rfl⟩⟩⟩
  | false =>
   rw [hbad] at g40 hD
   simp only [Bool.false_eq_true, if_false] at hD
   refine w_false (by simp only [wL, Nat.reduceBEq, Bool.not_true, Bool.not_false, g40]) ?_
   refine w_skip ?_
   (with_reducible repeat first | apply q_n | apply q_e | apply q_r | apply bq_n | apply bq_e | apply bq_r | apply bq_o rfl)
   have hrd2 : rdn G2 G1.size 0 7 = some cs := by have := hB2.rd; rwa [hl7] at this
   have hE3 : Ext G2 (G2.push (.cells cs.toArray 35)) := (Ext.refl _).push _
   have hrd3 : rdn (G2.push (.cells cs.toArray 35)) G2.size 0 7 = some cs := by
    rw [rdn_new G2 cs 35 0 7 (by omega), List.drop_zero, List.take_of_length_le (by omega)]
   have hs3 : (G2.push (.cells cs.toArray 35)).size = G2.size + 1 := by simp
   obtain ⟨css, hrw, hcl, hcel⟩ := hrow2
   rw [eu, ← hcl] at g4 hrw
   refine w_reg fun K hK => ?_
   rw [ecs] at hrd2
   simp (disch := omega) only [↓wD, wU, simprocAttr, g4, g7, hrd2, as_one]
   rw [← ecs]
   refine app_one (hrw.mono (M' := M') (fun _ h => h) hE3.1 fun x hx hx' => hE3.2 x hx') (fun x hx => by have := hMG x (.inl hx); omega) ⟨hl7, hEl.one⟩ rfl (by decide) (by omega) ?_ rfl
   intro v8 H8 hrow8 hk8 hs8
   simp (disch := omega) only [↓wD, wU, simprocAttr]
   refine hK _ _ ?_
   clear hK K
   (with_reducible repeat first | apply q_n | apply q_e | apply q_r | apply bq_n | apply bq_e | apply bq_r | apply bq_o rfl)
   refine w_reg1 fun K hK => ?_; simp (disch := omega) only [↓wD, wU, simprocAttr, g12]; refine hK _ _ ?_; clear hK K
   (with_reducible repeat first | apply q_n | apply q_e | apply q_r | apply bq_n | apply bq_e | apply bq_r | apply bq_o rfl)
   have hs8' := hk8.1
   have keep8 : ∀ x, x < G2.size → ¬ M' x → H8[x]? = G2[x]? := fun x hx hm => by rw [hk8.2 x (by omega) hm, hE3.2 x hx]
   have hpM : ¬ M' p := fun hm => by have := hMG p (.inl hm); omega
   have hGn2 : ∀ x, Gn x → ¬ M' x := fun x hx hm => by have := hMG x (.inl hm); have := hGn x hx; omega
   refine ⟨n - (i + 1), by omega, (by simp only [wL, Nat.reduceBEq, g0]), (by simp only [wL, Nat.reduceBEq, g11]), i + 1, L ++ [(hdR sti).1.1], (hdR sti).2, gv1, v8, fun x => (M' x ∨ x = (G2.push (.cells cs.toArray 35)).size) ∧ x < H8.size, fun x => G' x ∨ Gn x, (by simp only [wL, Nat.reduceBEq]), by omega, rfl, (by simp only [wL, Nat.reduceBEq]), ?_, ?_, ?_, ?_, ?_, by simp [hLi], hD⟩
   ·exact ⟨by omega, fun x hx hxp => by rw [keep8 x (by omega) (fun hm => by have := hMG x (.inl hm); omega), keep2 x (by omega) hxp, hkA.2 x hx hxp]⟩
   ·have hlt := h.lt
    exact hR2.keep (by omega) fun x hx hsx => keep8 x hx fun hm => by
     rcases hsx with h1 | h1
     ·have := hlt x h1; have := hMG x (.inl hm); omega
     ·subst h1; exact hpM hm
   ·rintro x (⟨hx | hx, hx2⟩ | hx | hx)
    ·have := hMG x (.inl hx); omega
    ·omega
    ·have := hMG x (.inr hx); omega
    ·have := hGn x hx; omega
   ·rintro x ⟨hx | hx, hx2⟩ (hy | hy)
    ·exact hdis x hx hy
    ·exact hGn2 x hy hx
    ·have := hMG x (.inr hy); omega
    ·have := hGn x hy; omega
   ·refine ⟨css ++ [cs], hrow8.lt, by simp [hcl], fun j hj hl => ?_⟩
    by_cases hjl : j < css.length
    ·rw [List.getElem_append_left hjl, List.getElem_append_left (by omega)]
     exact (hcel j hjl (by omega)).mono (fun _ h => .inl h) fun x hx hx' => keep8 x hx' fun hm => hdis x hm hx
    ·simp only [List.length_append, List.length_cons, List.length_nil] at hj hl
     rw [List.getElem_append_right (by omega), List.getElem_append_right (by omega)]
     have e1 : j - css.length = 0 := by omega
     have e2 : j - L.length = 0 := by omega
     simp only [e1, e2, List.getElem_cons_zero]
     exact hEl.mono (fun _ h => .inr h) fun x hx hx' => by rw [keep8 x (by omega) (hGn2 x hx), keep12 x hx']
 ·refine w_reg fun K hK => ?_; simp (disch := omega) only [↓wD, wU, simprocAttr, f11, f12, hil]; refine hK _ _ ?_; clear hK K
  refine w_seq ?_
  refine wf ?_
  refine w_exit ?_
  (with_reducible repeat first | apply q_n | apply q_e | apply q_r | apply bq_n | apply bq_e | apply bq_r | apply bq_o rfl)
  have e : n - i = 0 := by omega
  rw [e, holdsL] at hD
  rw [← hD]
  refine w_reg fun K hK => ?_
  simp (disch := omega) only [↓wD, wU, simprocAttr, f0, f4]
  refine w_call (failed_cl hR) ?_
  rintro _ _ ⟨rfl, rfl⟩
  simp (disch := omega) only [↓wD, wU, simprocAttr]
  refine hK _ _ ?_
  clear hK K
  refine w_ret ?_; (with_reducible repeat first | apply q_n | apply q_e | apply q_r | apply bq_n | apply bq_e | apply bq_r | apply bq_o rfl); refine ret2 (by (try simp only [wL, Nat.reduceBEq]); rfl) (by (try simp only [wL, Nat.reduceBEq]); rfl) ?_
  exact ⟨⟨hkA, vi, hR⟩, _, _, rfl, fun x hx => hMG x hx, by rw [f4]; exact hrow.slp (by unfold big; omega)⟩
end Go.WK
/-
 The reference's bytes of a number.
-/
namespace Go.WK
open Go Go.Proofs

theorem Row.one {H : Hp} {t : Nat} {u : Value} (hu : u.oneCell' = true) : Row (fun x => x = H.size) (H.push (.cells #[u] t)) 1 (.slice (some ⟨H.size, 0, none⟩) 1 1) [[u]] := by
 refine ⟨fun cs hcs => ?_, .inr ⟨H.size, 1, rfl, Nat.le_refl _, rfl, by simp, ⟨fun j hj => ?_, fun i => frz_new H [u] t i⟩, fun i hi => ?_⟩⟩
 ·simp at hcs; subst hcs
  exact ⟨rfl, fun v hv => by simp at hv; subst hv; exact hu⟩
 ·have : j = 0 := by omega
  subst this
  exact ⟨by rw [cell_new H [u] t]; rfl, frz_new H [u] t _⟩
 ·have : i = 0 := by simp at hi; omega
  subst this
  exact rdn_new H [u] t 0 1 (Nat.le_refl _)
theorem Row.cell1 {M : Nat → Prop} {H : Hp} {b n c : Nat} {css : List (List Value)} (h : Row M H 1 (.slice (some ⟨b, 0, none⟩) n c) css) {i : Nat} (hi : i < css.length) : ∃ u, css[i] = [u] ∧ cell H b i = some u ∧ (∀ j, frz H b j = false) ∧ M b := by
 obtain ⟨h0, ⟨e, -⟩ | ⟨b', c', e, h1, h2, h3, ⟨h4, h5⟩, h6⟩⟩ := h
 ·cases e
 ·cases e
  have hr := h6 i hi
  rw [Nat.mul_one] at hr
  obtain ⟨hl, hg⟩ := rdn_spec hr
  match hc : css[i], hl with
  | [u], _ =>
   refine ⟨u, rfl, ?_, h5, h2⟩
   have := hg 0 (by omega)
   rw [Nat.add_zero, hc] at this
   exact this
theorem Row.putc {M : Nat → Prop} {H : Hp} {b n c : Nat} {css : List (List Value)} (h : Row M H 1 (.slice (some ⟨b, 0, none⟩) n c) css) {i : Nat} (hi : i < css.length) {u : Value} (hu : u.oneCell' = true) : Row M (Go.WK.putc H b i u) 1 (.slice (some ⟨b, 0, none⟩) n c) (css.set i [u]) := by
 obtain ⟨h0, ⟨e, -⟩ | ⟨b', c', e, h1, h2, h3, ⟨h4, h5⟩, h6⟩⟩ := h
 ·cases e
 ·cases e
  refine ⟨fun cs hcs => ?_, .inr ⟨b, c, by rw [List.length_set], by rw [List.length_set]; exact h1, h2, by rw [putc_size]; exact h3, ⟨fun j hj => ?_, fun j => by rw [frz_putc]; exact h5 j⟩, fun j hj => ?_⟩⟩
  ·rcases List.mem_or_eq_of_mem_set hcs with hm | rfl
   ·exact h0 cs hm
   ·exact ⟨rfl, fun v hv => by simp at hv; subst hv; exact hu⟩
  ·have := h4 j hj
   rw [frz_putc]
   refine ⟨?_, this.2⟩
   rw [cell_putc]
   split
   ·rename_i he
    obtain ⟨-, rfl⟩ := he
    have h8 := this.1
    rw [Nat.zero_add] at h8 ⊢
    rw [h8]; rfl
   ·exact this.1
  ·simp only [List.length_set] at hj
   have hr := h6 j hj
   rw [Nat.mul_one] at hr ⊢
   by_cases e : i = j
   ·subst e
    rw [List.getElem_set_self]
    refine rdn_of rfl fun k hk => ?_
    have : k = 0 := by omega
    subst this
    have hc := (rdn_spec hr).2 0 (by omega)
    rw [Nat.add_zero] at hc
    have hl := (rdn_spec hr).1
    rw [Nat.add_zero, cell_putc, if_pos ⟨rfl, rfl⟩, hc, List.getElem?_eq_getElem (by omega)]
    rfl
   ·rw [List.getElem_set_ne e]
    obtain ⟨hl, hg⟩ := rdn_spec hr
    refine rdn_of hl fun k hk => ?_
    rw [cell_putc, if_neg (by omega)]
    exact hg k hk
theorem Row.tip {M : Nat → Prop} {H : Hp} {v : Value} {k : Nat} {css : List (List Value)} {cs : List Value} (h : Row M H k v (css ++ [cs])) : ∃ b c, v = .slice (some ⟨b, 0, none⟩) (css ++ [cs]).length c := by
 obtain ⟨-, ⟨-, e⟩ | ⟨b, c, e, -⟩⟩ := h
 ·simp at e
 ·exact ⟨b, c, e⟩
theorem Row.tip1 {M : Nat → Prop} {H : Hp} {v : Value} {l : List UInt8} {c : UInt8} (h : Row M H 1 v (bcs (l ++ [c]))) : ∃ b k, v = .slice (some ⟨b, 0, none⟩) (bcs (l ++ [c])).length k := by
 have e : bcs (l ++ [c]) = bcs l ++ [[.int .u8 c.toNat]] := by simp
 rw [e] at h ⊢
 exact h.tip
theorem and127_64 {n : Nat} (h : n < 9223372036854775808) : IntKind.i64.wrap ((BitVec.ofInt IntKind.i64.bits (n : Int) &&& BitVec.ofInt IntKind.i64.bits 127).toNat : Int) = ((n % 128 : Nat) : Int) := by
 have e : IntKind.i64.bits = 64 := rfl
 have e2 : (127 : Int) = ((127 : Nat) : Int) := rfl
 have e3 : n &&& 127 = n % 128 := Nat.and_two_pow_sub_one_eq_mod n 7
 rw [e, e2, BitVec.toNat_and, BitVec.ofInt_natCast, BitVec.ofInt_natCast, BitVec.toNat_ofNat, BitVec.toNat_ofNat, Nat.mod_eq_of_lt (by omega), Nat.mod_eq_of_lt (by omega), e3, wr64 (by omega) (by omega)]
theorem bcs_set (pre : List UInt8) (c d : UInt8) : (bcs (pre ++ [c])).set pre.length [.int .u8 d.toNat] = bcs (pre ++ [d]) := by
 simp only [bcs, List.map_append, List.map_cons, List.map_nil]
 rw [List.set_append_right _ _ (by simp)]
 simp
set_option maxHeartbeats 4000000 in
theorem Number2_cl {H : Hp} {x : Int} (hx : I64 x) : Cl Tryz.prog 121 [.int .i64 x] H fun r H' => Ext H H' ∧ ∃ (v : Value) (M : Nat → Prop), r = .tuple #[v, .bool (numOk x)] ∧ (∀ y, M y → H.size ≤ y ∧ y < H'.size) ∧ Row M H' 1 v (bcs (if numOk x then numE x.toNat else [])) := by
 refine cl_of mixed c_watershedref02_Number (Nat.le_of_ble_eq_true rfl) ?_
 simp only [fwp, ir_watershedref02_Number, argF, Nat.reduceAdd]
 obtain ⟨hx1, hx2⟩ := hx
 refine w_reg fun K hK => ?_; simp (disch := omega) only [↓wD, wU, simprocAttr]; refine hK _ _ ?_; clear hK K
 refine w_seq (w_seq ?_)
 by_cases h0 : x < 0
 ·refine w_reg fun K hK => ?_; simp (disch := omega) only [↓wD, wU, simprocAttr, h0]; refine hK _ _ ?_; clear hK K
  refine wt ?_
  refine w_reg fun K hK => ?_; simp (disch := omega) only [↓wD, wU, simprocAttr]; refine hK _ _ ?_; clear hK K
  refine w_ret ?_; (with_reducible repeat first | apply q_n | apply q_e | apply q_r | apply bq_n | apply bq_e | apply bq_r | apply bq_o rfl); refine ret2 (by (try simp only [wL, Nat.reduceBEq]); rfl) (by (try simp only [wL, Nat.reduceBEq]); rfl) ?_
  have e : numOk x = false := by simp only [numOk, Bool.and_eq_false_iff, decide_eq_false_iff_not]; exact .inl (by omega)
  rw [e]
  exact ⟨Ext.refl _, _, fun _ => False, rfl, fun _ h => h.elim, Row.nil⟩
 by_cases h1 : 4611686018427387903 < x
 ·refine w_reg fun K hK => ?_; simp (disch := omega) only [↓wD, wU, simprocAttr, h0, h1]; refine hK _ _ ?_; clear hK K
  refine wt ?_
  refine w_reg fun K hK => ?_; simp (disch := omega) only [↓wD, wU, simprocAttr]; refine hK _ _ ?_; clear hK K
  refine w_ret ?_; (with_reducible repeat first | apply q_n | apply q_e | apply q_r | apply bq_n | apply bq_e | apply bq_r | apply bq_o rfl); refine ret2 (by (try simp only [wL, Nat.reduceBEq]); rfl) (by (try simp only [wL, Nat.reduceBEq]); rfl) ?_
  have e : numOk x = false := by simp only [numOk, Bool.and_eq_false_iff, decide_eq_false_iff_not]; exact .inr (by omega)
  rw [e]
  exact ⟨Ext.refl _, _, fun _ => False, rfl, fun _ h => h.elim, Row.nil⟩
 refine w_reg fun K hK => ?_; simp (disch := omega) only [↓wD, wU, simprocAttr, h0, h1]; refine hK _ _ ?_; clear hK K
 refine wf ?_
 refine w_skip ?_
 (with_reducible repeat first | apply q_n | apply q_e | apply q_r | apply bq_n | apply bq_e | apply bq_r | apply bq_o rfl)
 have e : numOk x = true := by simp only [numOk, Bool.and_eq_true, decide_eq_true_eq]; omega
 rw [e]
 simp only [if_true]
 obtain ⟨n, rfl⟩ : ∃ n : Nat, x = n := ⟨x.toNat, by omega⟩
 rw [Int.toNat_natCast]
 have ea := and127_64 (n := n) (by omega)
 have ew : IntKind.u8.wrap ((n % 128 : Nat) : Int) = ((n % 128 : Nat) : Int) := wr8 (by omega) (by omega)
 have eu : ((UInt8.ofNat (n % 128)).toNat : Int) = ((n % 128 : Nat) : Int) := u8n (by omega)
 refine w_reg fun K hK => ?_; simp (disch := omega) only [↓wD, wU, simprocAttr, ea, ew]; refine hK _ _ ?_; clear hK K
 refine w_reg fun K hK => ?_; simp (disch := omega) only [↓wD, wU, simprocAttr, shr7]; refine hK _ _ ?_; clear hK K
 have hE0 : Ext H (H.push (.cells #[.int .u8 ((n % 128 : Nat) : Int)] 5)) := (Ext.refl _).push _
 have hrow0 : Row (fun x => x = H.size) (H.push (.cells #[.int .u8 ((n % 128 : Nat) : Int)] 5)) 1 (.slice (some ⟨H.size, 0, none⟩) 1 1) (bcs ([] ++ [UInt8.ofNat (n % 128)])) := by
  have := Row.one (H := H) (t := 5) (u := .int .u8 ((n % 128 : Nat) : Int)) rfl
  rw [← eu] at this ⊢
  exact this
 have hn9 := numE_len9 (n := n) (by omega)
 refine w_seq ?_
 refine w_blk (w_loop (fun k f H' => Ext H H' ∧ ∃ (m c : Nat) (pre : List UInt8) (M : Nat → Prop) (v : Value), f 0 = .int .i64 m ∧ m ≤ 4611686018427387903 ∧ c < 128 ∧ f 4 = v ∧ (∀ y, M y → H.size ≤ y ∧ y < H'.size) ∧ Row M H' 1 v (bcs (pre ++ [UInt8.ofNat c])) ∧ pre ++ numE (c + 128 * m) = numE n ∧ k = m) (n / 128) ⟨hE0, n / 128, n % 128, [], _, _, (by simp only [wL, Nat.reduceBEq]), by omega, by omega, (by simp only [wL, Nat.reduceBEq]), fun y hy => by simp; omega, hrow0, by rw [List.nil_append]; congr 1; omega, rfl⟩ ?_)
 rintro k f H' ⟨hE, m, c, pre, M, v, f0, hm, hc, f4, hM, hrow, he, rfl⟩
 have hpl : pre.length + 1 ≤ 9 := by
  have h1 := congrArg List.length he
  rw [List.length_append] at h1
  have h2 : 0 < (numE (c + 128 * k)).length := by rw [numE]; split <;> simp
  omega
 obtain ⟨b, cap, rfl⟩ := hrow.tip1
 obtain ⟨u, hu, hcell, hfz, hMb⟩ := hrow.cell1 (i := pre.length) (by simp)
 have hu' : u = .int .u8 ((UInt8.ofNat c).toNat : Int) := by simpa using hu.symm
 subst hu'
 have hbl := (hM b hMb).1
 have hplen : (bcs (pre ++ [UInt8.ofNat c])).length = pre.length + 1 := by simp
 rw [hplen] at f4
 refine w_seq (w_seq ?_)
 by_cases hk0 : k = 0
 ·subst hk0
  refine w_reg fun K hK => ?_; simp (disch := omega) only [↓wD, wU, simprocAttr, f0, cast0]; refine hK _ _ ?_; clear hK K
  refine wf ?_
  refine w_exit ?_
  (with_reducible repeat first | apply q_n | apply q_e | apply q_r | apply bq_n | apply bq_e | apply bq_r | apply bq_o rfl)
  refine w_reg fun K hK => ?_; simp (disch := omega) only [↓wD, wU, simprocAttr, f4]; refine hK _ _ ?_; clear hK K
  refine w_ret ?_; (with_reducible repeat first | apply q_n | apply q_e | apply q_r | apply bq_n | apply bq_e | apply bq_r | apply bq_o rfl); refine ret2 (by (try simp only [wL, Nat.reduceBEq]); rfl) (by (try simp only [wL, Nat.reduceBEq]); rfl) ?_
  rw [Nat.mul_zero, Nat.add_zero, numE_s (by omega)] at he
  rw [← he, ← hplen]
  exact ⟨hE, _, M, rfl, hM, hrow⟩
 ·have hk1 : ((0 : Int) < (k : Int)) = True := by simp; omega
  have hk2 : (0 < k) = True := by simp; omega
  have hidx : IntKind.i64.wrap (((pre.length + 1 : Nat) : Int) - 1) = ((pre.length : Nat) : Int) := by rw [wr64 (by omega) (by omega)]; omega
  have hor := or128' (a := (UInt8.ofNat c).toNat) (UInt8.toNat_lt _)
  refine w_reg fun K hK => ?_; simp (disch := omega) only [↓wD, wU, simprocAttr, f0, hk1, hk2]; refine hK _ _ ?_; clear hK K
  refine wt ?_
  refine w_skip ?_
  (with_reducible repeat first | apply q_n | apply q_e | apply q_r | apply bq_n | apply bq_e | apply bq_r | apply bq_o rfl)
  refine w_blk ?_
  refine w_reg fun K hK => ?_; simp (disch := omega) only [↓wD, wU, simprocAttr, f0, f4, hidx, hcell, hfz, hor, Nat.mul_one, Nat.lt_add_one]; refine hK _ _ ?_; clear hK K
  have hcn : (UInt8.ofNat c).toNat = c := by have := u8n (n := c) (by omega); omega
  have hd : (((UInt8.ofNat c).toNat % 128 + 128 : Nat) : Int) = ((UInt8.ofNat (c + 128)).toNat : Int) := by rw [u8n (n := c + 128) (by omega), hcn]; omega
  have hrow1 := hrow.putc (i := pre.length) (by simp) (u := .int .u8 ((UInt8.ofNat (c + 128)).toNat : Int)) rfl
  rw [bcs_set] at hrow1
  rw [hd]
  have ea2 := and127_64 (n := k) (by omega)
  have ew2 : IntKind.u8.wrap ((k % 128 : Nat) : Int) = ((k % 128 : Nat) : Int) := wr8 (by omega) (by omega)
  have eu2 : ((UInt8.ofNat (k % 128)).toNat : Int) = ((k % 128 : Nat) : Int) := u8n (by omega)
  have hs1 : (putc H' b pre.length (.int .u8 ((UInt8.ofNat (c + 128)).toNat : Int))).size = H'.size := by rw [putc_size]
  have hE1 : Ext H (putc H' b pre.length (.int .u8 ((UInt8.ofNat (c + 128)).toNat : Int))) := ⟨by rw [hs1]; exact hE.1, fun x hx => (putc_ne (by omega)).trans (hE.2 x hx)⟩
  generalize putc H' b pre.length (.int .u8 ((UInt8.ofNat (c + 128)).toNat : Int)) = H1 at hrow1 hs1 hE1 ⊢
  have hE2 : Ext H1 (H1.push (.cells #[.int .u8 ((k % 128 : Nat) : Int)] 5)) := (Ext.refl _).push _
  have hs2 : (H1.push (.cells #[.int .u8 ((k % 128 : Nat) : Int)] 5)).size = H1.size + 1 := by simp
  have hrow2 := hrow1.mono (M' := M) (fun _ h => h) hE2.1 fun x hx hx' => hE2.2 x hx'
  refine w_reg fun K hK => ?_
  simp (disch := omega) only [↓wD, wU, simprocAttr, f0, f4, ea2, ew2, as_one]
  refine app_one hrow2 (fun x hx => by have := (hM x hx).2; omega) ⟨rfl, fun w hw => by simp at hw; subst hw; rfl⟩ rfl (by decide) (by simp; omega) ?_ (by rw [List.length_map, List.length_append]; rfl)
  intro v' H3 hrow3 hk3 hs3
  simp (disch := omega) only [↓wD, wU, simprocAttr]
  refine hK _ _ ?_
  clear hK K
  refine w_reg1 fun K hK => ?_; simp (disch := omega) only [↓wD, wU, simprocAttr, f0, shr7]; refine hK _ _ ?_; clear hK K
  (with_reducible repeat first | apply q_n | apply q_e | apply q_r | apply bq_n | apply bq_e | apply bq_r | apply bq_o rfl)
  have hs3' := hk3.1
  have e3 : bcs (pre ++ [UInt8.ofNat (c + 128)]) ++ [[Value.int .u8 ((k % 128 : Nat) : Int)]] = bcs (pre ++ [UInt8.ofNat (c + 128)] ++ [UInt8.ofNat (k % 128)]) := by
   rw [← eu2]; simp
  rw [e3] at hrow3
  have hE3 : Ext H H3 := ⟨by have := hE1.1; omega, fun x hx => by rw [hk3.2 x (by have := hE1.1; omega) (fun hm => by have := (hM x hm).1; omega), hE2.2 x (by have := hE1.1; omega), hE1.2 x hx]⟩
  have hkm : k / 128 * 128 + k % 128 = k := by omega
  refine ⟨k / 128, by omega, hE3, k / 128, k % 128, pre ++ [UInt8.ofNat (c + 128)], _, v', (by simp only [wL, Nat.reduceBEq]), by omega, by omega, (by simp only [wL, Nat.reduceBEq]), ?_, hrow3.lt, ?_, rfl⟩
  ·rintro y ⟨hy | hy, hy2⟩
   ·exact ⟨(hM y hy).1, hy2⟩
   ·exact ⟨by have := hE1.1; omega, hy2⟩
  ·rw [← he, numE_l (n := c + 128 * k) (by omega), List.append_assoc]
   have e1 : (c + 128 * k) % 128 = c := by omega
   have e2 : (c + 128 * k) / 128 = k := by omega
   have e4 : k % 128 + 128 * (k / 128) = k := by omega
   rw [e1, e2, e4]; rfl
end Go.WK
/-
 The reference's bytes of numbers, flags, texts.
-/
namespace Go.WK
open Go Go.Proofs

/-- Bytes in memory of their own, made since H0. -/
structure NB (M : Nat → Prop) (H0 H : Hp) (v : Value) (l : List UInt8) : Prop where
 ext : Ext H0 H
 mem : ∀ y, M y → H0.size ≤ y ∧ y < H.size
 row : Row M H 1 v (bcs l)
theorem NB.nil (H : Hp) : NB (fun _ => False) H H (.slice none 0 0) [] := ⟨Ext.refl _, fun _ h => h.elim, Row.nil⟩
theorem NB.form {M : Nat → Prop} {H0 H : Hp} {v : Value} {l : List UInt8} (h : NB M H0 H v l) : ∃ a c, v = .slice a l.length c := by
 obtain ⟨a, c, e⟩ := h.row.form
 exact ⟨a, c, by rw [e]; simp⟩
theorem bcs_el {l : List UInt8} : ∀ i (hi : i < (bcs l).length) (hl : i < l.length), ElB (bcs l)[i] l[i] := fun i hi hl => by simp [ElB]
theorem NB.sl {M : Nat → Prop} {H0 H : Hp} {v : Value} {l : List UInt8} (h : NB M H0 H v l) (hl : l.length ≤ big) : BSl M H v l := h.row.slp (by simp) hl bcs_el
theorem NB.keep {M : Nat → Prop} {H0 H H' : Hp} {v : Value} {l : List UInt8} (h : NB M H0 H v l) (hE : Ext H H') : NB M H0 H' v l :=
 ⟨h.ext.trans hE, fun y hy => ⟨(h.mem y hy).1, Nat.lt_of_lt_of_le (h.mem y hy).2 hE.1⟩, h.row.mono (fun _ h => h) hE.1 fun b _ hb => hE.2 b hb⟩
theorem NB.pre {M : Nat → Prop} {A H0 H : Hp} {v : Value} {l : List UInt8} (h : NB M H0 H v l) (hE : Ext A H0) : NB M A H v l :=
 ⟨hE.trans h.ext, fun y hy => ⟨Nat.le_trans hE.1 (h.mem y hy).1, (h.mem y hy).2⟩, h.row⟩
/-- What another one's writing leaves alone. -/
theorem NB.on {M N : Nat → Prop} {H0 H H' : Hp} {v : Value} {l : List UInt8} (h : NB M H0 H v l) (hk : KeepOn (fun x => ¬ N x) H H') (hN : ∀ x, N x → H0.size ≤ x ∧ ¬ M x) : NB M H0 H' v l :=
 ⟨⟨Nat.le_trans h.ext.1 hk.1, fun b hb => by rw [hk.2 b (Nat.lt_of_lt_of_le hb h.ext.1) fun hn => by have := (hN b hn).1; omega]; exact h.ext.2 b hb⟩,
  fun y hy => ⟨(h.mem y hy).1, Nat.lt_of_lt_of_le (h.mem y hy).2 hk.1⟩, h.row.mono (fun _ h => h) hk.1 fun b hb hb' => hk.2 b hb' fun hn => (hN b hn).2 hb⟩
theorem b_src {S : Nat → Prop} {H : Hp} {u : Value} {m : List UInt8} (hu : BSl S H u m) : appSrc H 1 u = some (m.length, (bcs m).flatten) := by
 obtain ⟨css, a2, cap2, hlen, rfl, hsrc, hel⟩ := SlP.rows hu
 obtain rfl := bcs_of hlen hel
 rw [hsrc]; simp
theorem app_nb {M : Nat → Prop} {H0 H : Hp} {t : Nat} {κ : Value → Hp → Prop} {v : Value} {l m : List UInt8} (hv : NB M H0 H v l) (hl : l.length + m.length ≤ 140737488355328)
  (h : ∀ v' H' M', NB M' H0 H' v' (l ++ m) → KeepOn (fun x => ¬ M x) H H' → (∀ x, M' x → M x ∨ H.size ≤ x) → κ v' H') {a : Option Addr} {n c : Nat} (ha : v = .slice a n c) :
  @appK H t 1 1 [.int .u8 0] a n c m.length (bcs m).flatten ⟨κ⟩ := by
 have e0 : (bcs m).length = m.length := by simp
 rw [← e0]
 refine app_row (z := [.int .u8 0]) hv.row (fun x hx => (hv.mem x hx).2) bcs_ok rfl (by decide) (by simpa using hl) ?_ ha
 intro v' H' hrow hk hsz
 have hs := hk.1
 refine h v' H' (fun x => (M x ∨ x = H.size) ∧ x < H'.size) ⟨⟨Nat.le_trans hv.ext.1 hs, fun b hb => ?_⟩, ?_, ?_⟩ hk fun x hx => hx.1.imp id fun h => by omega
 ·rw [hk.2 b (Nat.lt_of_lt_of_le hb hv.ext.1) fun hm => by have := (hv.mem b hm).1; omega]
  exact hv.ext.2 b hb
 ·rintro y ⟨hy | hy, hy2⟩
  ·exact ⟨(hv.mem y hy).1, hy2⟩
  ·exact ⟨by have := hv.ext.1; omega, hy2⟩
 ·have e : bcs (l ++ m) = bcs l ++ bcs m := by simp
  rw [e]
  exact hrow.lt
theorem one_nb {H : Hp} {t : Nat} (c : UInt8) : NB (fun x => x = H.size) H (H.push (.cells #[.int .u8 (c.toNat : Int)] t)) (.slice (some ⟨H.size, 0, none⟩) 1 1) [c] :=
 ⟨(Ext.refl _).push _, fun y hy => by simp; omega, Row.one rfl⟩
theorem Flag2_cl {H : Hp} (b : Bool) : Cl Tryz.prog 122 [.bool b] H fun r H' => ∃ M, NB M H H' r [flagE b] := by
 refine cl_of mixed c_watershedref02_Flag (Nat.le_of_ble_eq_true rfl) ?_
 simp only [fwp, ir_watershedref02_Flag, argF, Nat.reduceAdd]
 refine w_reg fun K hK => ?_; simp (disch := omega) only [↓wD, wU, simprocAttr]; refine hK _ _ ?_; clear hK K
 refine w_seq (w_seq ?_)
 cases b with
 | true =>
  refine w_reg fun K hK => ?_; simp (disch := omega) only [↓wD, wU, simprocAttr]; refine hK _ _ ?_; clear hK K
  refine wt ?_
  refine w_reg fun K hK => ?_; simp (disch := omega) only [↓wD, wU, simprocAttr]; refine hK _ _ ?_; clear hK K
  refine w_ret ?_; (with_reducible repeat first | apply q_n | apply q_e | apply q_r | apply bq_n | apply bq_e | apply bq_r | apply bq_o rfl); refine ret1 (by (try simp only [wL, Nat.reduceBEq]); rfl) ?_
  exact ⟨_, one_nb 1⟩
 | false =>
  refine w_reg fun K hK => ?_; simp (disch := omega) only [↓wD, wU, simprocAttr]; refine hK _ _ ?_; clear hK K
  refine wf ?_
  refine w_skip ?_
  (with_reducible repeat first | apply q_n | apply q_e | apply q_r | apply bq_n | apply bq_e | apply bq_r | apply bq_o rfl)
  refine w_reg fun K hK => ?_; simp (disch := omega) only [↓wD, wU, simprocAttr]; refine hK _ _ ?_; clear hK K
  refine w_ret ?_; (with_reducible repeat first | apply q_n | apply q_e | apply q_r | apply bq_n | apply bq_e | apply bq_r | apply bq_o rfl); refine ret1 (by (try simp only [wL, Nat.reduceBEq]); rfl) ?_
  exact ⟨_, one_nb 0⟩
theorem Row2_cl {S : Nat → Prop} {H : Hp} {v : Value} {l : List UInt8} (hv : BSl S H v l) (hl : l.length + 9 ≤ 140737488355328) : Cl Tryz.prog 123 [v] H fun r H' => ∃ M, NB M H H' r (rowE l) := by
 refine cl_of mixed c_watershedref02_Row (Nat.le_of_ble_eq_true rfl) ?_
 simp only [fwp, ir_watershedref02_Row, argF, Nat.reduceAdd]
 obtain ⟨a, c, rfl, -, -, -⟩ := SlP.open hv
 have hn := nlen_ok (n := l.length) (by omega)
 refine w_reg fun K hK => ?_; simp (disch := omega) only [↓wD, wU, simprocAttr]; refine hK _ _ ?_; clear hK K
 refine w_reg fun K hK => ?_
 simp (disch := omega) only [↓wD, wU, simprocAttr]
 refine w_call (Number2_cl hn.1) ?_
 rintro _ H1 ⟨hE1, v1, M1, rfl, hM1, hrow1⟩
 rw [hn.2] at hrow1 ⊢
 simp only [if_true, Int.toNat_natCast] at hrow1
 have hnb : NB M1 H H1 v1 (numE l.length) := ⟨hE1, hM1, hrow1⟩
 obtain ⟨a1, c1, rfl⟩ := hnb.form
 simp (disch := omega) only [↓wD, wU, simprocAttr]
 refine hK _ _ ?_
 clear hK K
 have h9 := numE_len9 (n := l.length) (by omega)
 have hsrc := b_src (SlP.mono hv (fun _ h => h) (fun b _ hb => hE1.2 b hb) fun _ _ _ h => h)
 refine w_reg fun K hK => ?_
 simp (disch := omega) only [↓wD, wU, simprocAttr, hsrc]
 refine app_nb hnb (by omega) ?_ rfl
 intro v' H' M' hnb' _ _
 simp (disch := omega) only [↓wD, wU, simprocAttr]
 refine hK _ _ ?_
 clear hK K
 refine w_ret ?_; (with_reducible repeat first | apply q_n | apply q_e | apply q_r | apply bq_n | apply bq_e | apply bq_r | apply bq_o rfl); refine ret1 (by (try simp only [wL, Nat.reduceBEq]); rfl) ?_
 exact ⟨M', hnb'⟩
theorem flag_take {l : List Bool} {i : Nat} (hi : i < l.length) : (l.take (i + 1)).map flagE = (l.take i).map flagE ++ [flagE l[i]] := by
 rw [List.take_add_one, List.getElem?_eq_getElem hi, List.map_append]; rfl
theorem text_take {l : List ByteArray} {i : Nat} (hi : i < l.length) : (l.take (i + 1)).flatMap textE = (l.take i).flatMap textE ++ textE l[i] := by
 rw [List.take_add_one, List.getElem?_eq_getElem hi, List.flatMap_append]; simp
theorem nums_take {l : List Int} {i : Nat} (hi : i < l.length) (h : numOk l[i] = true) : numsE (l.take (i + 1)) = numsE (l.take i) ++ numE l[i].toNat := by
 rw [List.take_add_one, List.getElem?_eq_getElem hi]
 have := numsE_snoc (l.take i) l[i]
 rw [h, if_pos rfl] at this
 exact this
def wrE (nums : List Int) (flags : List Bool) (texts : List ByteArray) : List UInt8 := numsE nums ++ flags.map flagE ++ texts.flatMap textE
set_option maxHeartbeats 4000000 in
theorem Write2_cl {S1 S2 S3 : Nat → Prop} {H : Hp} {vn vf vt : Value} {nums : List Int} {flags : List Bool} {texts : List ByteArray} (hn : ISl S1 H vn nums) (hf : FSl S2 H vf flags) (ht : StrSl S3 H vt texts) (hl : 9 * nums.length + flags.length + szs texts + 9 ≤ 140737488355328) :
  Cl Tryz.prog 68 [vn, vf, vt, .slice none 0 0] H fun r H' => ∃ v M, r = .tuple #[v, .int .i64 (if nums.all numOk then 0 else 2)] ∧ NB M H H' v (if nums.all numOk then wrE nums flags texts else []) := by
 refine cl_of mixed c_watershedref02_Write (Nat.le_of_ble_eq_true rfl) ?_
 simp only [fwp, ir_watershedref02_Write, argF, Nat.reduceAdd]
 have hall : ∀ s ∈ texts, Sz s := by
  obtain ⟨a, c, -, -, -, hel⟩ := SlP.open ht
  intro s hs
  obtain ⟨i, hi, rfl⟩ := List.getElem_of_mem hs
  obtain ⟨b, o, -, -, cs, -, -, h⟩ := hel i hi
  exact h
 obtain ⟨a1, c1, rfl, hc1, hl1, hel1⟩ := SlP.open hn
 obtain ⟨a2, c2, rfl, hc2, hl2, hel2⟩ := SlP.open hf
 obtain ⟨a3, c3, rfl, hc3, hl3, hel3⟩ := SlP.open ht
 refine w_reg fun K hK => ?_; simp (disch := omega) only [↓wD, wU, simprocAttr]; refine hK _ _ ?_; clear hK K
 refine w_reg fun K hK => ?_; simp (disch := omega) only [↓wD, wU, simprocAttr]; refine hK _ _ ?_; clear hK K
 refine w_seq ?_
 refine w_reg fun K hK => ?_; simp (disch := omega) only [↓wD, wU, simprocAttr]; refine hK _ _ ?_; clear hK K
 refine w_blk (w_loop (fun n f H' => f 0 = .slice a1 nums.length c1 ∧ f 1 = .slice a2 flags.length c2 ∧ f 2 = .slice a3 texts.length c3 ∧ f 3 = .slice none 0 0 ∧ ∃ (i : Nat) (v : Value) (M : Nat → Prop), f 11 = .int .i64 i ∧ i ≤ nums.length ∧ f 10 = v ∧ NB M H H' v (numsE (nums.take i)) ∧ (∀ j (hj : j < nums.length), j < i → numOk nums[j] = true) ∧ n = nums.length - i) _ ⟨(by simp only [wL, Nat.reduceBEq]), (by simp only [wL, Nat.reduceBEq]), (by simp only [wL, Nat.reduceBEq]), (by simp only [wL, Nat.reduceBEq]), 0, _, _, (by simp only [wL, Nat.reduceBEq]; rfl), Nat.zero_le _, (by simp only [wL, Nat.reduceBEq]), NB.nil H, fun j hj h => by omega, rfl⟩ ?_)
 rintro n f H' ⟨f0, f1, f2, f3, i, v, M, f11, hi, f10, hnb, hok, rfl⟩
 obtain ⟨av, cv, rfl⟩ := hnb.form
 refine w_seq (w_seq ?_)
 by_cases hlt : i < nums.length
 ·obtain ⟨b, o, rfl, hS, cs, hcs, rfl, hx⟩ := hel1 i hlt
  have hcl := rdn1 (rdn_ext hnb.ext hcs)
  rw [Nat.mul_one] at hcl
  refine w_reg fun K hK => ?_; simp (disch := omega) only [↓wD, wU, simprocAttr, f0, f11, hlt]; refine hK _ _ ?_; clear hK K
  refine wt ?_
  refine w_skip ?_
  (with_reducible repeat first | apply q_n | apply q_e | apply q_r | apply bq_n | apply bq_e | apply bq_r | apply bq_o rfl)
  refine w_seq (w_blk ?_)
  refine w_reg fun K hK => ?_
  simp (disch := omega) only [↓wD, wU, simprocAttr, f0, f11, hlt, hcl, Nat.mul_one]
  refine w_call (Number2_cl hx) ?_
  rintro _ H2 ⟨hE2, v2, M2, rfl, hM2, hrow2⟩
  cases hq : numOk nums[i] with
  | true =>
   rw [hq] at hrow2
   simp only [if_true] at hrow2
   have hnb2 : NB M2 H' H2 v2 (numE nums[i].toNat) := ⟨hE2, hM2, hrow2⟩
   have h9 := numE_len9 (numOk_le hq)
   have hln := numsE_len (nums.take i)
   rw [List.length_take] at hln
   have hlb : (numsE (nums.take i)).length + (numE nums[i].toNat).length ≤ 140737488355328 := by omega
   simp (disch := omega) only [↓wD, wU, simprocAttr]
   refine hK _ _ ?_
   clear hK K
   refine w_seq ?_
   refine w_reg fun K hK => ?_; simp (disch := omega) only [↓wD, wU, simprocAttr]; refine hK _ _ ?_; clear hK K
   refine wf ?_
   refine w_skip ?_
   (with_reducible repeat first | apply q_n | apply q_e | apply q_r | apply bq_n | apply bq_e | apply bq_r | apply bq_o rfl)
   have hsrc := b_src (hnb2.sl (by unfold big; omega))
   refine w_reg1 fun K hK => ?_
   simp (disch := omega) only [↓wD, wU, simprocAttr, f10, hsrc]
   refine app_nb (hnb.keep hE2) hlb ?_ rfl
   intro v' H3 M3 hnb3 _ _
   simp (disch := omega) only [↓wD, wU, simprocAttr]
   refine hK _ _ ?_
   clear hK K
   (with_reducible repeat first | apply q_n | apply q_e | apply q_r | apply bq_n | apply bq_e | apply bq_r | apply bq_o rfl)
   refine w_reg1 fun K hK => ?_; simp (disch := omega) only [↓wD, wU, simprocAttr, f11]; refine hK _ _ ?_; clear hK K
   (with_reducible repeat first | apply q_n | apply q_e | apply q_r | apply bq_n | apply bq_e | apply bq_r | apply bq_o rfl)
   refine ⟨nums.length - (i + 1), by omega, (by simp only [wL, Nat.reduceBEq, f0]), (by simp only [wL, Nat.reduceBEq, f1]), (by simp only [wL, Nat.reduceBEq, f2]), (by simp only [wL, Nat.reduceBEq, f3]), i + 1, v', M3, (by simp only [wL, Nat.reduceBEq]), by omega, (by simp only [wL, Nat.reduceBEq]), ?_, fun j hj h' => ?_, rfl⟩
   ·rw [nums_take hlt hq]; exact hnb3
   ·by_cases e : j = i
    ·subst e; exact hq
    ·exact hok j hj (by omega)
  | false =>
   simp (disch := omega) only [↓wD, wU, simprocAttr]
   refine hK _ _ ?_
   clear hK K
   refine w_seq ?_
   refine w_reg fun K hK => ?_; simp (disch := omega) only [↓wD, wU, simprocAttr]; refine hK _ _ ?_; clear hK K
   refine wt ?_
   refine w_reg fun K hK => ?_; simp (disch := omega) only [↓wD, wU, simprocAttr]; refine hK _ _ ?_; clear hK K
   refine w_ret ?_; (with_reducible repeat first | apply q_n | apply q_e | apply q_r | apply bq_n | apply bq_e | apply bq_r | apply bq_o rfl); refine ret2 (by (try simp only [wL, Nat.reduceBEq]); rfl) (by (try simp only [wL, Nat.reduceBEq]); rfl) ?_
   have e : nums.all numOk = false := List.all_eq_false.2 ⟨_, List.getElem_mem hlt, by simp [hq]⟩
   rw [e]
   exact ⟨_, _, rfl, (NB.nil H).keep (hnb.ext.trans hE2)⟩
 ·refine w_reg fun K hK => ?_; simp (disch := omega) only [↓wD, wU, simprocAttr, f0, f11, hlt]; refine hK _ _ ?_; clear hK K
  refine wf ?_
  refine w_exit ?_
  (with_reducible repeat first | apply q_n | apply q_e | apply q_r | apply bq_n | apply bq_e | apply bq_r | apply bq_o rfl)
  have e : nums.all numOk = true := List.all_eq_true.2 fun x hx => by
   obtain ⟨j, hj, rfl⟩ := List.getElem_of_mem hx
   exact hok j hj (by omega)
  rw [e]
  simp only [if_true]
  rw [List.take_of_length_le (by omega)] at hnb f10
  have hln := numsE_len nums
  clear hok
  refine w_seq ?_
  refine w_reg fun K hK => ?_; simp (disch := omega) only [↓wD, wU, simprocAttr]; refine hK _ _ ?_; clear hK K
  refine w_blk (w_loop (fun n f H' => f 1 = .slice a2 flags.length c2 ∧ f 2 = .slice a3 texts.length c3 ∧ f 3 = .slice none 0 0 ∧ ∃ (i : Nat) (v : Value) (M : Nat → Prop), f 14 = .int .i64 i ∧ i ≤ flags.length ∧ f 10 = v ∧ NB M H H' v (numsE nums ++ (flags.take i).map flagE) ∧ n = flags.length - i) _ ⟨(by simp only [wL, Nat.reduceBEq, f1]), (by simp only [wL, Nat.reduceBEq, f2]), (by simp only [wL, Nat.reduceBEq, f3]), 0, .slice av (numsE nums).length cv, M, (by simp only [wL, Nat.reduceBEq]; rfl), Nat.zero_le _, (by simp only [wL, Nat.reduceBEq, f10]), by simpa using hnb, rfl⟩ ?_)
  clear hnb f10 f11 f1 f2 f3 f0 hi hlt i f H' M
  rintro n f H' ⟨f1, f2, f3, i, v, M, f14, hi, f10, hnb, rfl⟩
  obtain ⟨av, cv, rfl⟩ := hnb.form
  refine w_seq (w_seq ?_)
  by_cases hlt : i < flags.length
  ·obtain ⟨b, o, rfl, hS, cs, hcs, rfl⟩ := hel2 i hlt
   have hcl := rdn1 (rdn_ext hnb.ext hcs)
   rw [Nat.mul_one] at hcl
   refine w_reg fun K hK => ?_; simp (disch := omega) only [↓wD, wU, simprocAttr, f1, f14, hlt]; refine hK _ _ ?_; clear hK K
   refine wt ?_
   refine w_skip ?_
   (with_reducible repeat first | apply q_n | apply q_e | apply q_r | apply bq_n | apply bq_e | apply bq_r | apply bq_o rfl)
   refine w_seq (w_blk ?_)
   refine w_reg1 fun K hK => ?_
   simp (disch := omega) only [↓wD, wU, simprocAttr, f1, f10, f14, hlt, hcl, Nat.mul_one]
   refine w_call (Flag2_cl flags[i]) ?_
   rintro _ H2 ⟨M2, hnb2⟩
   have hsrc := b_src (hnb2.sl (by simp [big]))
   simp (disch := omega) only [↓wD, wU, simprocAttr, f10, hsrc]
   refine app_nb (m := [flagE flags[i]]) (hnb.keep hnb2.ext) (by simp only [List.length_append, List.length_map, List.length_take, List.length_cons, List.length_nil]; omega) ?_ rfl
   intro v' H3 M3 hnb3 _ _
   simp (disch := omega) only [↓wD, wU, simprocAttr]
   refine hK _ _ ?_
   clear hK K
   (with_reducible repeat first | apply q_n | apply q_e | apply q_r | apply bq_n | apply bq_e | apply bq_r | apply bq_o rfl)
   refine w_reg1 fun K hK => ?_; simp (disch := omega) only [↓wD, wU, simprocAttr, f14]; refine hK _ _ ?_; clear hK K
   (with_reducible repeat first | apply q_n | apply q_e | apply q_r | apply bq_n | apply bq_e | apply bq_r | apply bq_o rfl)
   refine ⟨flags.length - (i + 1), by omega, (by simp only [wL, Nat.reduceBEq, f1]), (by simp only [wL, Nat.reduceBEq, f2]), (by simp only [wL, Nat.reduceBEq, f3]), i + 1, v', M3, (by simp only [wL, Nat.reduceBEq]), by omega, (by simp only [wL, Nat.reduceBEq]), ?_, rfl⟩
   rw [flag_take hlt, ← List.append_assoc]; exact hnb3
  ·refine w_reg fun K hK => ?_; simp (disch := omega) only [↓wD, wU, simprocAttr, f1, f14, hlt]; refine hK _ _ ?_; clear hK K
   refine wf ?_
   refine w_exit ?_
   (with_reducible repeat first | apply q_n | apply q_e | apply q_r | apply bq_n | apply bq_e | apply bq_r | apply bq_o rfl)
   rw [List.take_of_length_le (l := flags) (by omega)] at hnb f10
   refine w_seq ?_
   refine w_reg fun K hK => ?_; simp (disch := omega) only [↓wD, wU, simprocAttr]; refine hK _ _ ?_; clear hK K
   refine w_blk (w_loop (fun n f H' => f 2 = .slice a3 texts.length c3 ∧ f 3 = .slice none 0 0 ∧ ∃ (i : Nat) (v : Value) (M : Nat → Prop), f 15 = .int .i64 i ∧ i ≤ texts.length ∧ f 10 = v ∧ NB M H H' v (numsE nums ++ flags.map flagE ++ (texts.take i).flatMap textE) ∧ n = texts.length - i) _ ⟨(by simp only [wL, Nat.reduceBEq, f2]), (by simp only [wL, Nat.reduceBEq, f3]), 0, .slice av (numsE nums ++ flags.map flagE).length cv, M, (by simp only [wL, Nat.reduceBEq]; rfl), Nat.zero_le _, (by simp only [wL, Nat.reduceBEq, f10]), by simpa using hnb, rfl⟩ ?_)
   clear hnb f10 f14 f1 f2 f3 hi hlt i f H' M
   rintro n f H' ⟨f2, f3, i, v, M, f15, hi, f10, hnb, rfl⟩
   obtain ⟨av, cv, rfl⟩ := hnb.form
   refine w_seq (w_seq ?_)
   by_cases hlt : i < texts.length
   ·obtain ⟨b, o, rfl, hS, cs, hcs, rfl, hx⟩ := hel3 i hlt
    have hcl := rdn1 (rdn_ext hnb.ext hcs)
    rw [Nat.mul_one] at hcl
    refine w_reg fun K hK => ?_; simp (disch := omega) only [↓wD, wU, simprocAttr, f2, f15, hlt]; refine hK _ _ ?_; clear hK K
    refine wt ?_
    refine w_skip ?_
    (with_reducible repeat first | apply q_n | apply q_e | apply q_r | apply bq_n | apply bq_e | apply bq_r | apply bq_o rfl)
    refine w_seq (w_blk ?_)
    refine w_reg1 fun K hK => ?_
    simp (disch := omega) only [↓wD, wU, simprocAttr, f2, f10, f15, hlt, hcl, Nat.mul_one]
    refine w_csb fun room hroom => ?_
    have hu1 := (csb_block (H := H') (t := 5) hroom).resolve_right fun h => h hx
    generalize hH1 : H'.push (.cells (cellsOfBytes (texts[i]).data.toList ++ List.replicate (room - (texts[i]).size) (Value.int .u8 0)).toArray 5 (room, room + 1)) = H1 at hu1 ⊢
    have hE1 : Ext H' H1 := by subst hH1; exact (Ext.refl _).push _
    clear hH1
    simp (disch := omega) only [↓wD, wU, simprocAttr, f10]
    have h1 := szs_take hall i
    have h2 := szs_le (l := texts) i hlt
    have e : (texts[i]).data.toList.length = (texts[i]).size := rfl
    have h3 := rowE_len (texts[i]).data.toList (by omega)
    refine w_call (Row2_cl hu1 (by omega)) ?_
    rintro _ H2 ⟨M2, hnb2⟩
    have hsrc := b_src (hnb2.sl (by unfold big; omega))
    have h4 : (textE texts[i]).length = (rowE (texts[i]).data.toList).length := rfl
    simp (disch := omega) only [↓wD, wU, simprocAttr, f10, hsrc]
    refine app_nb (m := textE texts[i]) (hnb.keep (hE1.trans hnb2.ext)) (by simp only [List.length_append, List.length_map]; omega) ?_ rfl
    intro v' H3 M3 hnb3 _ _
    simp (disch := omega) only [↓wD, wU, simprocAttr]
    refine hK _ _ ?_
    clear hK K
    (with_reducible repeat first | apply q_n | apply q_e | apply q_r | apply bq_n | apply bq_e | apply bq_r | apply bq_o rfl)
    refine w_reg1 fun K hK => ?_; simp (disch := omega) only [↓wD, wU, simprocAttr, f15]; refine hK _ _ ?_; clear hK K
    (with_reducible repeat first | apply q_n | apply q_e | apply q_r | apply bq_n | apply bq_e | apply bq_r | apply bq_o rfl)
    refine ⟨texts.length - (i + 1), by omega, (by simp only [wL, Nat.reduceBEq, f2]), (by simp only [wL, Nat.reduceBEq, f3]), i + 1, v', M3, (by simp only [wL, Nat.reduceBEq]), by omega, (by simp only [wL, Nat.reduceBEq]), ?_, rfl⟩
    rw [text_take hlt, ← List.append_assoc]; exact hnb3
   ·refine w_reg fun K hK => ?_; simp (disch := omega) only [↓wD, wU, simprocAttr, f2, f15, hlt]; refine hK _ _ ?_; clear hK K
    refine wf ?_
    refine w_exit ?_
    (with_reducible repeat first | apply q_n | apply q_e | apply q_r | apply bq_n | apply bq_e | apply bq_r | apply bq_o rfl)
    rw [List.take_of_length_le (l := texts) (by omega)] at hnb f10
    refine w_seq ?_
    refine w_reg fun K hK => ?_; simp (disch := omega) only [↓wD, wU, simprocAttr]; refine hK _ _ ?_; clear hK K
    refine w_blk (w_loop (fun n g G => g 3 = .slice none 0 0 ∧ g 16 = .int .i64 0 ∧ g 10 = f 10 ∧ G = H') 0 ⟨(by simp only [wL, Nat.reduceBEq, f3]), (by simp only [wL, Nat.reduceBEq]), (by simp only [wL, Nat.reduceBEq]), rfl⟩ ?_)
    rintro n g G ⟨g3, g16, g10, rfl⟩
    refine w_seq (w_seq ?_)
    refine w_reg fun K hK => ?_; simp (disch := omega) only [↓wD, wU, simprocAttr, g3, g16]; refine hK _ _ ?_; clear hK K
    refine wf ?_
    refine w_exit ?_
    (with_reducible repeat first | apply q_n | apply q_e | apply q_r | apply bq_n | apply bq_e | apply bq_r | apply bq_o rfl)
    refine w_reg fun K hK => ?_; simp (disch := omega) only [↓wD, wU, simprocAttr, g10, f10]; refine hK _ _ ?_; clear hK K
    refine w_ret ?_; (with_reducible repeat first | apply q_n | apply q_e | apply q_r | apply bq_n | apply bq_e | apply bq_r | apply bq_o rfl); refine ret2 (by (try simp only [wL, Nat.reduceBEq]); rfl) (by (try simp only [wL, Nat.reduceBEq]); rfl) ?_
    exact ⟨_, M, rfl, hnb⟩
end Go.WK
/-
 The reference's reader.
-/
namespace Go.WK
open Go Go.Proofs

/-- The reference's reader: one that has failed has nothing left. -/
structure Qr (S : Nat → Prop) (H : Hp) (p : Nat) (st : St) (v : Value) : Prop where
 c0 : cell H p 0 = some v
 c1 : cell H p 1 = some (.bool st.isNone)
 fz : ∀ i, frz H p i = false
 sl : BSl S H v (st.getD [])
 pS : ¬ S p
 lt : ∀ x, S x → x < H.size
theorem Qr.keep {S : Nat → Prop} {H H' : Hp} {p : Nat} {st : St} {v : Value} (h : Qr S H p st v) (hs : H.size ≤ H'.size) (hk : ∀ x, x < H.size → S x ∨ x = p → H'[x]? = H[x]?) : Qr S H' p st v :=
 have hp := cell_lt h.c0
 ⟨(cell_block (hk p hp (.inr rfl)) 0).trans h.c0, (cell_block (hk p hp (.inr rfl)) 1).trans h.c1, fun i => (frz_block (hk p hp (.inr rfl)) i).trans (h.fz i),
  SlP.mono h.sl (fun _ h => h) (fun b hb hb' => hk b hb' (.inl hb)) (fun _ _ _ h => h), h.pS, fun x hx => Nat.lt_of_lt_of_le (h.lt x hx) hs⟩
theorem Qr.ext {S : Nat → Prop} {H H' : Hp} {p : Nat} {st : St} {v : Value} (h : Qr S H p st v) (hE : Ext H H') : Qr S H' p st v := h.keep hE.1 fun x hx _ => hE.2 x hx
def QrP (S : Nat → Prop) (H : Hp) (p : Nat) (st : St) (H' : Hp) : Prop := KeepOn (fun x => x ≠ p) H H' ∧ ∃ v', Qr S H' p st v'
theorem Qr.put {S : Nat → Prop} {H : Hp} {p : Nat} {st st' : St} {v v' : Value} (h : Qr S H p st v) (hst : st'.isNone = st.isNone) (hv : BSl S H v' (st'.getD [])) : QrP S H p st' (putc H p 0 v') := by
 have hk : KeepOn (fun x => x ≠ p) H (Go.WK.putc H p 0 v') := ⟨by rw [putc_size]; exact Nat.le_refl _, fun b _ hb => putc_ne hb⟩
 refine ⟨hk, v', ?_, ?_, fun i => ?_, ?_, h.pS, fun x hx => by rw [putc_size]; exact h.lt x hx⟩
 ·rw [cell_putc, if_pos ⟨rfl, rfl⟩, h.c0]; rfl
 ·rw [cell_putc, if_neg (by simp), hst]; exact h.c1
 ·rw [frz_putc]; exact h.fz i
 ·exact SlP.mono hv (fun _ h => h) (fun b hb _ => putc_ne fun e => h.pS (e ▸ hb)) fun _ _ _ h => h
theorem fail2_cl {S : Nat → Prop} {H : Hp} {p : Nat} {st : St} {v : Value} (h : Qr S H p st v) : Cl Tryz.prog 139 [.pointer (some ⟨p, 0, none⟩)] H fun _ H' => QrP S H p none H' := by
 refine cl_of mixed c_watershedref02_Reader_fail (Nat.le_of_ble_eq_true rfl) ?_
 simp only [fwp, ir_watershedref02_Reader_fail, argF, Nat.reduceAdd]
 have hc0 := h.c0
 refine w_reg fun K hK => ?_; simp (disch := omega) only [↓wD, wU, simprocAttr, h.c1, h.fz]; refine hK _ _ ?_; clear hK K
 refine w_reg1 fun K hK => ?_
 simp (disch := omega) only [↓wD, wU, simprocAttr, hc0, h.fz, cell_putc, frz_putc]
 refine hK _ _ ?_
 refine retN rfl ?_
 have hk : KeepOn (fun x => x ≠ p) H (putc (putc H p 1 (.bool true)) p 0 (.slice none 0 0)) := ⟨by rw [putc_size, putc_size]; exact Nat.le_refl _, fun b _ hb => (putc_ne hb).trans (putc_ne hb)⟩
 refine ⟨hk, .slice none 0 0, ?_, ?_, fun i => ?_, ⟨Nat.zero_le _, .inl ⟨none, rfl, rfl⟩⟩, h.pS, fun x hx => by rw [putc_size, putc_size]; exact h.lt x hx⟩
 ·have e : cell (putc H p 1 (.bool true)) p 0 = some v := by rw [cell_putc, if_neg (by simp)]; exact h.c0
  rw [cell_putc, if_pos ⟨rfl, rfl⟩, e]; rfl
 ·rw [cell_putc, if_neg (by simp), cell_putc, if_pos ⟨rfl, rfl⟩, h.c1]; rfl
 ·rw [frz_putc, frz_putc]; exact h.fz i
theorem bsl_pl {S : Nat → Prop} {H : Hp} {a : Option Addr} {c : Nat} {l : List UInt8} (h : BSl S H (.slice a l.length c) l) {q : Prop} (hq : c = 0 → q) : Pl a q = True := by
 rcases h.2 with ⟨wa, e, e2⟩ | ⟨b, o, c', e, -⟩
 ·rw [eq_true (hq (Value.slice.inj e).2.2)]; exact pl_true
 ·obtain ⟨rfl, -⟩ := Value.slice.inj e; exact pl_some
theorem bsl_drop {S : Nat → Prop} {H : Hp} {a : Option Addr} {c n : Nat} {l : List UInt8} (h : BSl S H (.slice a l.length c) l) (hn : n ≤ l.length) :
  BSl S H (.slice (if c = n then a else Option.map (fun p => ({ block := p.block, off := p.off + n * 1, spot := none } : Addr)) a) (l.length - n) (c - n)) (l.drop n) := by
 have hl : l.length ≤ 140737488355328 := h.1
 refine ⟨by unfold big; simp only [List.length_drop]; omega, ?_⟩
 rcases h.2 with ⟨wa, e, e2⟩ | ⟨b, o, c', e, hcc, hel⟩
 ·obtain ⟨rfl, -, rfl⟩ := Value.slice.inj e
  subst e2
  have : n = 0 := by simpa using hn
  subst this
  exact .inl ⟨a, by simp, rfl⟩
 ·obtain ⟨rfl, -, rfl⟩ := Value.slice.inj e
  by_cases hcn : c = n
  ·refine .inl ⟨some ⟨b, o, none⟩, ?_, List.drop_eq_nil_of_le (by omega)⟩
   rw [if_pos hcn]
   have e1 : l.length - n = 0 := by omega
   have e2 : c - n = 0 := by omega
   rw [e1, e2]
  ·refine .inr ⟨b, o + n * 1, c - n, by rw [if_neg hcn, List.length_drop]; rfl, by simp; omega, fun i hi => ?_⟩
   rw [List.length_drop] at hi
   obtain ⟨h1, cs, h2, h3⟩ := hel (n + i) (by omega)
   refine ⟨h1, cs, ?_, ?_⟩
   ·have : o + n * 1 + i * 1 = o + (n + i) * 1 := by omega
    rw [this]; exact h2
   ·rw [List.getElem_drop]; exact h3
theorem bsl_take {S : Nat → Prop} {H : Hp} {a : Option Addr} {c n : Nat} {l : List UInt8} (h : BSl S H (.slice a l.length c) l) (hn : n ≤ l.length) :
  BSl S H (.slice (if c = 0 then a else Option.map (fun p => ({ block := p.block, off := p.off, spot := none } : Addr)) a) n c) (l.take n) := by
 have hl : l.length ≤ 140737488355328 := h.1
 refine ⟨by unfold big; simp only [List.length_take]; omega, ?_⟩
 rcases h.2 with ⟨wa, e, e2⟩ | ⟨b, o, c', e, hcc, hel⟩
 ·obtain ⟨rfl, -, rfl⟩ := Value.slice.inj e
  subst e2
  have : n = 0 := by simpa using hn
  subst this
  exact .inl ⟨a, by simp, rfl⟩
 ·obtain ⟨rfl, -, rfl⟩ := Value.slice.inj e
  refine .inr ⟨b, o, c, by rw [List.length_take, Nat.min_eq_left hn]; split <;> rfl, by rw [List.length_take]; omega, fun i hi => ?_⟩
  rw [List.length_take] at hi
  obtain ⟨h1, cs, h2, h3⟩ := hel i (by omega)
  refine ⟨h1, cs, h2, ?_⟩
  rw [List.getElem_take]; exact h3
theorem numD_suffix {k acc : Nat} : ∀ {l : List UInt8} {n : Nat} {l' : List UInt8}, numD k acc l = some (n, l') → l' = l.drop (l.length - l'.length) := by
 intro l
 induction l generalizing k acc with
 | nil => intro n l' h; simp [numD] at h
 | cons b l ih =>
  intro n l' h
  have hlt := numD_lt h
  rw [numD] at h
  split at h
  ·cases h
  ·split at h
   ·split at h
    ·cases h
    ·simp only [Option.some.injEq, Prod.mk.injEq] at h
     obtain ⟨-, rfl⟩ := h
     simp
   ·have h1 := ih h
    have h2 := numD_lt h
    have e : (b :: l).length - l'.length = (l.length - l'.length) + 1 := by simp; omega
    rw [e, List.drop_succ_cons]
    exact h1
/-- What Get tells. -/
def getD2 (l : List UInt8) : Int × Int := match numD 0 0 l with
 | none => (0, 0)
 | some (n, l') => if (n : Int) > 4611686018427387903 then (0, 0) else (n, ((l.length - l'.length : Nat) : Int))
set_option maxHeartbeats 4000000 in
theorem Get2_cl {S : Nat → Prop} {H : Hp} {v : Value} {l : List UInt8} (hv : BSl S H v l) : Cl Tryz.prog 138 [v] H fun r H' => H' = H ∧ r = .tuple #[.int .i64 (getD2 l).1, .int .i64 (getD2 l).2] := by
 refine cl_of mixed c_watershedref02_Get (Nat.le_of_ble_eq_true rfl) ?_
 simp only [fwp, ir_watershedref02_Get, argF, Nat.reduceAdd]
 obtain ⟨a, c, rfl, hc, hl, hel⟩ := SlP.open hv
 refine w_reg fun K hK => ?_; simp (disch := omega) only [↓wD, wU, simprocAttr]; refine hK _ _ ?_; clear hK K
 refine w_reg fun K hK => ?_; simp (disch := omega) only [↓wD, wU, simprocAttr]; refine hK _ _ ?_; clear hK K
 refine w_seq ?_
 refine w_seq ?_
 refine w_reg fun K hK => ?_; simp (disch := omega) only [↓wD, wU, simprocAttr]; refine hK _ _ ?_; clear hK K
 refine w_blk (w_loop (fun n f H' => H' = H ∧ f 0 = .slice a l.length c ∧ ∃ (i acc : Nat), f 5 = .int .i64 i ∧ i ≤ l.length ∧ i ≤ 9 ∧ f 4 = .int .i64 acc ∧ acc < 128 ^ i ∧ numD i acc (l.drop i) = numD 0 0 l ∧ n = l.length - i) _ ⟨rfl, (by simp only [wL, Nat.reduceBEq]), 0, 0, (by simp only [wL, Nat.reduceBEq]; rfl), Nat.zero_le _, by omega, (by simp only [wL, Nat.reduceBEq]; rfl), by decide, rfl, rfl⟩ ?_)
 rintro n f H' ⟨rfl, f0, i, acc, f5, hi, hi9, f4, hacc, hD, rfl⟩
 refine w_seq (w_seq ?_)
 by_cases hlt : i < l.length
 ·by_cases h9 : i < 9
  ·obtain ⟨b, o, rfl, hS, cs, hcs, rfl⟩ := hel i hlt
   have hcl := rdn1 hcs
   rw [Nat.mul_one] at hcl
   have hdr : l.drop i = l[i] :: l.drop (i + 1) := List.drop_eq_getElem_cons hlt
   rw [hdr] at hD
   have hdl : (l.drop (i + 1)).length = l.length - (i + 1) := List.length_drop
   generalize l[i] = c8 at *
   generalize hrest : l.drop (i + 1) = rest at *
   have hc8 := c8.toNat_lt
   have hm : c8.toNat % 128 < 128 := Nat.mod_lt _ (by decide)
   have hcv : IntKind.i64.wrap ((c8.toNat % 128 : Nat) : Int) = ((c8.toNat % 128 : Nat) : Int) := cvi8 _ (by omega)
   have h9' : ((i : Int) < 9) = True := by simp; omega
   have h7 : IntKind.i64.wrap (7 * (i : Int)) = ((7 * i : Nat) : Int) := by rw [wr64 (by omega) (by omega)]; omega
   have h7u : IntKind.u64.wrap ((7 * i : Nat) : Int) = ((7 * i : Nat) : Int) := by
    unfold IntKind.wrap; simp [IntKind.signed, IntKind.bits]; omega
   refine w_reg fun K hK => ?_; simp (disch := omega) only [↓wD, wU, simprocAttr, f0, f5, hlt, h9']; refine hK _ _ ?_; clear hK K
   refine wt ?_
   refine w_skip ?_
   (with_reducible repeat first | apply q_n | apply q_e | apply q_r | apply bq_n | apply bq_e | apply bq_r | apply bq_o rfl)
   refine w_seq (w_blk ?_)
   refine w_reg fun K hK => ?_; simp (disch := omega) only [↓wD, wU, simprocAttr, f0, f4, f5, hlt, hcl, Nat.mul_one, and127', hcv, h7, h7u, shl_pow h9 hm, or_add h9 hacc hm]; refine hK _ _ ?_; clear hK K
   have hacc2 : acc + c8.toNat % 128 * 128 ^ i < 128 ^ (i + 1) := by
    have : c8.toNat % 128 * 128 ^ i ≤ 127 * 128 ^ i := Nat.mul_le_mul_right _ (by omega)
    rw [Nat.pow_succ]; omega
   have hpk : 128 ^ (i + 1) ≤ 128 ^ 9 := Nat.pow_le_pow_right (by decide) (by omega)
   have h99 : (128 : Nat) ^ 9 = 9223372036854775808 := by decide
   generalize hn : acc + c8.toNat % 128 * 128 ^ i = n at hacc2 ⊢
   by_cases hc128 : c8.toNat < 128
   ·have hcc : ((c8.toNat : Int) < 128) = True := by simp; omega
    have hDc : numD 0 0 l = if 0 < i ∧ c8.toNat = 0 then none else some (n, rest) := by
     rw [← hD, numD, if_neg (by omega), if_pos hc128, hn]
    refine w_reg fun K hK => ?_; simp (disch := omega) only [↓wD, wU, simprocAttr, f0, f5, hlt, hcl, Nat.mul_one, hcc]; refine hK _ _ ?_; clear hK K
    refine wt ?_
    refine w_seq (w_seq ?_)
    have nn : ((n : Int) < 0) = False := by simp
    by_cases hb1 : 0 < i ∧ c8.toNat = 0
    ·have e : getD2 l = (0, 0) := by simp only [getD2, hDc, if_pos hb1]
     have z1 : ((0 : Int) < (i : Int)) = True := by simp; omega
     have z2 : ((c8.toNat : Int) = 0) = True := by simp; omega
     have z3 : (0 < i) = True := by simp; omega
     refine w_reg fun K hK => ?_; simp (disch := omega) only [↓wD, wU, simprocAttr, f0, f5, hlt, hcl, Nat.mul_one, z1, z2, z3]; refine hK _ _ ?_; clear hK K
     refine wt ?_
     refine w_reg fun K hK => ?_; simp (disch := omega) only [↓wD, wU, simprocAttr]; refine hK _ _ ?_; clear hK K
     refine w_ret ?_; (with_reducible repeat first | apply q_n | apply q_e | apply q_r | apply bq_n | apply bq_e | apply bq_r | apply bq_o rfl); refine ret2 (by (try simp only [wL, Nat.reduceBEq]); rfl) (by (try simp only [wL, Nat.reduceBEq]); rfl) ?_
     rw [e]
     exact ⟨rfl, rfl⟩
    ·rw [if_neg hb1] at hDc
     by_cases hb3 : (4611686018427387903 : Int) < (n : Int)
     ·have e : getD2 l = (0, 0) := by simp only [getD2, hDc]; rw [if_pos hb3]
      by_cases hi0 : 0 < i
      ·have z1 : ((0 : Int) < (i : Int)) = True := by simp; omega
       have z2 : ((c8.toNat : Int) = 0) = False := by simp; omega
       refine w_reg fun K hK => ?_; simp (disch := omega) only [↓wD, wU, simprocAttr, f0, f5, hlt, hcl, Nat.mul_one, z1, z2, hi0, hb3, nn]; refine hK _ _ ?_; clear hK K
       refine wt ?_
       refine w_reg fun K hK => ?_; simp (disch := omega) only [↓wD, wU, simprocAttr]; refine hK _ _ ?_; clear hK K
       refine w_ret ?_; (with_reducible repeat first | apply q_n | apply q_e | apply q_r | apply bq_n | apply bq_e | apply bq_r | apply bq_o rfl); refine ret2 (by (try simp only [wL, Nat.reduceBEq]); rfl) (by (try simp only [wL, Nat.reduceBEq]); rfl) ?_
       rw [e]
       exact ⟨rfl, rfl⟩
      ·have z1 : ((0 : Int) < (i : Int)) = False := by simp; omega
       refine w_reg fun K hK => ?_; simp (disch := omega) only [↓wD, wU, simprocAttr, f0, f5, hlt, hcl, Nat.mul_one, z1, hi0, hb3, nn]; refine hK _ _ ?_; clear hK K
       refine wt ?_
       refine w_reg fun K hK => ?_; simp (disch := omega) only [↓wD, wU, simprocAttr]; refine hK _ _ ?_; clear hK K
       refine w_ret ?_; (with_reducible repeat first | apply q_n | apply q_e | apply q_r | apply bq_n | apply bq_e | apply bq_r | apply bq_o rfl); refine ret2 (by (try simp only [wL, Nat.reduceBEq]); rfl) (by (try simp only [wL, Nat.reduceBEq]); rfl) ?_
       rw [e]
       exact ⟨rfl, rfl⟩
     ·have e : getD2 l = ((n : Int), ((i + 1 : Nat) : Int)) := by
       simp only [getD2, hDc]; rw [if_neg hb3]
       congr 2; omega
      by_cases hi0 : 0 < i
      ·have z1 : ((0 : Int) < (i : Int)) = True := by simp; omega
       have z2 : ((c8.toNat : Int) = 0) = False := by simp; omega
       refine w_reg fun K hK => ?_; simp (disch := omega) only [↓wD, wU, simprocAttr, f0, f5, hlt, hcl, Nat.mul_one, z1, z2, hi0, hb3, nn]; refine hK _ _ ?_; clear hK K
       refine wf ?_
       refine w_skip ?_
       (with_reducible repeat first | apply q_n | apply q_e | apply q_r | apply bq_n | apply bq_e | apply bq_r | apply bq_o rfl)
       refine w_reg fun K hK => ?_; simp (disch := omega) only [↓wD, wU, simprocAttr, f5]; refine hK _ _ ?_; clear hK K
       refine w_ret ?_; (with_reducible repeat first | apply q_n | apply q_e | apply q_r | apply bq_n | apply bq_e | apply bq_r | apply bq_o rfl); refine ret2 (by (try simp only [wL, Nat.reduceBEq]); rfl) (by (try simp only [wL, Nat.reduceBEq]); rfl) ?_
       rw [e]
       exact ⟨rfl, rfl⟩
      ·have z1 : ((0 : Int) < (i : Int)) = False := by simp; omega
       refine w_reg fun K hK => ?_; simp (disch := omega) only [↓wD, wU, simprocAttr, f0, f5, hlt, hcl, Nat.mul_one, z1, hi0, hb3, nn]; refine hK _ _ ?_; clear hK K
       refine wf ?_
       refine w_skip ?_
       (with_reducible repeat first | apply q_n | apply q_e | apply q_r | apply bq_n | apply bq_e | apply bq_r | apply bq_o rfl)
       refine w_reg fun K hK => ?_; simp (disch := omega) only [↓wD, wU, simprocAttr, f5]; refine hK _ _ ?_; clear hK K
       refine w_ret ?_; (with_reducible repeat first | apply q_n | apply q_e | apply q_r | apply bq_n | apply bq_e | apply bq_r | apply bq_o rfl); refine ret2 (by (try simp only [wL, Nat.reduceBEq]); rfl) (by (try simp only [wL, Nat.reduceBEq]); rfl) ?_
       rw [e]
       exact ⟨rfl, rfl⟩
   ·have hcc : ((c8.toNat : Int) < 128) = False := by simp; omega
    refine w_reg fun K hK => ?_; simp (disch := omega) only [↓wD, wU, simprocAttr, f0, f5, hlt, hcl, Nat.mul_one, hcc]; refine hK _ _ ?_; clear hK K
    refine wf ?_
    refine w_skip ?_
    (with_reducible repeat first | apply q_n | apply q_e | apply q_r | apply bq_n | apply bq_e | apply bq_r | apply bq_o rfl)
    refine w_reg1 fun K hK => ?_; simp (disch := omega) only [↓wD, wU, simprocAttr, f5]; refine hK _ _ ?_; clear hK K
    (with_reducible repeat first | apply q_n | apply q_e | apply q_r | apply bq_n | apply bq_e | apply bq_r | apply bq_o rfl)
    refine ⟨l.length - (i + 1), by omega, rfl, (by simp only [wL, Nat.reduceBEq, f0]), i + 1, n, (by simp only [wL, Nat.reduceBEq]), by omega, by omega, (by simp only [wL, Nat.reduceBEq]), hacc2, ?_, rfl⟩
    rw [hrest, ← hD, numD, if_neg (by omega), if_neg hc128, hn]
  ·have e : getD2 l = (0, 0) := by
    have : numD 0 0 l = none := by
     rw [← hD]
     cases l.drop i with
     | nil => rfl
     | cons b r => rw [numD, if_pos (by omega)]
    simp only [getD2, this]
   have h9' : ((i : Int) < 9) = False := by simp; omega
   refine w_reg fun K hK => ?_; simp (disch := omega) only [↓wD, wU, simprocAttr, f0, f5, hlt, h9']; refine hK _ _ ?_; clear hK K
   refine wf ?_
   refine w_exit ?_
   (with_reducible repeat first | apply q_n | apply q_e | apply q_r | apply bq_n | apply bq_e | apply bq_r | apply bq_o rfl)
   refine w_reg fun K hK => ?_; simp (disch := omega) only [↓wD, wU, simprocAttr]; refine hK _ _ ?_; clear hK K
   refine w_ret ?_; (with_reducible repeat first | apply q_n | apply q_e | apply q_r | apply bq_n | apply bq_e | apply bq_r | apply bq_o rfl); refine ret2 (by (try simp only [wL, Nat.reduceBEq]); rfl) (by (try simp only [wL, Nat.reduceBEq]); rfl) ?_
   rw [e]
   exact ⟨rfl, rfl⟩
 ·have e : getD2 l = (0, 0) := by
   have : numD 0 0 l = none := by
    rw [← hD, List.drop_of_length_le (by omega)]; rfl
   simp only [getD2, this]
  refine w_reg fun K hK => ?_; simp (disch := omega) only [↓wD, wU, simprocAttr, f0, f5, hlt]; refine hK _ _ ?_; clear hK K
  refine wf ?_
  refine w_exit ?_
  (with_reducible repeat first | apply q_n | apply q_e | apply q_r | apply bq_n | apply bq_e | apply bq_r | apply bq_o rfl)
  refine w_reg fun K hK => ?_; simp (disch := omega) only [↓wD, wU, simprocAttr]; refine hK _ _ ?_; clear hK K
  refine w_ret ?_; (with_reducible repeat first | apply q_n | apply q_e | apply q_r | apply bq_n | apply bq_e | apply bq_r | apply bq_o rfl); refine ret2 (by (try simp only [wL, Nat.reduceBEq]); rfl) (by (try simp only [wL, Nat.reduceBEq]); rfl) ?_
  rw [e]
  exact ⟨rfl, rfl⟩
end Go.WK
/-
 The reference's reader (2).
-/
namespace Go.WK
open Go Go.Proofs

theorem NumR2_cl {S : Nat → Prop} {H : Hp} {p : Nat} {st : St} {v : Value} {most : Int} (h : Qr S H p st v) :
  Cl Tryz.prog 77 [.pointer (some ⟨p, 0, none⟩), .int .i64 most] H fun r H' => r = .int .i64 (numR most st).1 ∧ QrP S H p (numR most st).2 H' := by
 refine cl_of mixed c_watershedref02_Reader_Number (Nat.le_of_ble_eq_true rfl) ?_
 simp only [fwp, ir_watershedref02_Reader_Number, argF, Nat.reduceAdd]
 refine w_reg fun K hK => ?_; simp (disch := omega) only [↓wD, wU, simprocAttr]; refine hK _ _ ?_; clear hK K
 refine w_seq (w_seq ?_)
 cases st with
 | none =>
  have c1 := h.c1
  simp only [Option.isNone_none] at c1
  refine w_reg fun K hK => ?_; simp (disch := omega) only [↓wD, wU, simprocAttr, c1]; refine hK _ _ ?_; clear hK K
  refine wt ?_
  refine w_reg fun K hK => ?_; simp (disch := omega) only [↓wD, wU, simprocAttr]; refine hK _ _ ?_; clear hK K
  refine w_ret ?_; (with_reducible repeat first | apply q_n | apply q_e | apply q_r | apply bq_n | apply bq_e | apply bq_r | apply bq_o rfl); refine ret1 (by (try simp only [wL, Nat.reduceBEq]); rfl) ?_
  exact ⟨rfl, KeepOn.refl _ _, v, h⟩
 | some l =>
  have c1 := h.c1
  simp only [Option.isNone_some] at c1
  have hsl : BSl S H v l := h.sl
  obtain ⟨a, c, rfl, hc, hl, -⟩ := SlP.open hsl
  refine w_reg fun K hK => ?_; simp (disch := omega) only [↓wD, wU, simprocAttr, c1]; refine hK _ _ ?_; clear hK K
  refine wf ?_
  refine w_skip ?_
  (with_reducible repeat first | apply q_n | apply q_e | apply q_r | apply bq_n | apply bq_e | apply bq_r | apply bq_o rfl)
  refine w_reg fun K hK => ?_
  simp (disch := omega) only [↓wD, wU, simprocAttr, h.c0]
  refine w_call (Get2_cl hsl) ?_
  rintro _ H ⟨rfl, rfl⟩
  simp (disch := omega) only [↓wD, wU, simprocAttr]
  refine hK _ _ ?_
  clear hK K
  refine w_seq (w_seq ?_)
  have failed : numR most (some l) = (0, none) → ∀ H2, QrP S H p none H2 → (Value.int .i64 0 = .int .i64 (numR most (some l)).1 ∧ QrP S H p (numR most (some l)).2 H2) := fun e H2 hP => by rw [e]; exact ⟨rfl, hP⟩
  have zero : getD2 l = (0, 0) ∨ ∃ n l', numD 0 0 l = some (n, l') ∧ (n : Int) ≤ 4611686018427387903 ∧ getD2 l = ((n : Int), ((l.length - l'.length : Nat) : Int)) := by
   cases hD : numD 0 0 l with
   | none => exact .inl (by simp only [getD2, hD])
   | some q =>
    obtain ⟨n, l'⟩ := q
    by_cases hb : (n : Int) > 4611686018427387903
    ·exact .inl (by simp only [getD2, hD]; rw [if_pos hb])
    ·exact .inr ⟨n, l', rfl, by omega, by simp only [getD2, hD]; rw [if_neg hb]⟩
  have bad : numR most (some l) = (0, none) ∨ ∃ n l', numD 0 0 l = some (n, l') ∧ (n : Int) ≤ 4611686018427387903 ∧ (n : Int) ≤ most := by
   cases hD : numD 0 0 l with
   | none => exact .inl (by simp only [numR, hD])
   | some q =>
    obtain ⟨n, l'⟩ := q
    by_cases hb : (n : Int) > 4611686018427387903 ∨ (n : Int) > most
    ·exact .inl (by simp only [numR, hD]; rw [if_pos hb])
    ·exact .inr ⟨n, l', rfl, by omega, by omega⟩
  rcases zero with e | ⟨n, l', hD, hn, e⟩
  ·have e2 : numR most (some l) = (0, none) := by
    refine bad.resolve_right ?_
    rintro ⟨n, l', hD, hn, -⟩
    have hlt := numD_lt hD
    have h2 : (getD2 l).2 = 0 := by rw [e]
    simp only [getD2, hD] at h2
    rw [if_neg (by omega)] at h2
    simp only at h2
    omega
   rw [e]
   refine w_reg fun K hK => ?_; simp (disch := omega) only [↓wD, wU, simprocAttr]; refine hK _ _ ?_; clear hK K
   refine wt ?_
   refine w_reg fun K hK => ?_
   simp (disch := omega) only [↓wD, wU, simprocAttr]
   refine w_call (fail2_cl h) ?_
   rintro _ H2 hP
   simp (disch := omega) only [↓wD, wU, simprocAttr]
   refine hK _ _ ?_
   clear hK K
   refine w_reg fun K hK => ?_; simp (disch := omega) only [↓wD, wU, simprocAttr]; refine hK _ _ ?_; clear hK K
   refine w_ret ?_; (with_reducible repeat first | apply q_n | apply q_e | apply q_r | apply bq_n | apply bq_e | apply bq_r | apply bq_o rfl); refine ret1 (by (try simp only [wL, Nat.reduceBEq]); rfl) ?_
   exact failed e2 _ hP
  ·have hlt := numD_lt hD
   obtain ⟨m, hm⟩ : ∃ m, m = l.length - l'.length := ⟨_, rfl⟩
   have hsuf := numD_suffix hD
   rw [← hm] at hsuf
   rw [e, ← hm]
   have z1 : ((m : Int) = 0) = False := by simp; omega
   by_cases hmo : (most : Int) < n
   ·have e2 : numR most (some l) = (0, none) := by simp only [numR, hD]; rw [if_pos (.inr hmo)]
    refine w_reg fun K hK => ?_; simp (disch := omega) only [↓wD, wU, simprocAttr, z1, hmo]; refine hK _ _ ?_; clear hK K
    refine wt ?_
    refine w_reg fun K hK => ?_
    simp (disch := omega) only [↓wD, wU, simprocAttr]
    refine w_call (fail2_cl h) ?_
    rintro _ H2 hP
    simp (disch := omega) only [↓wD, wU, simprocAttr]
    refine hK _ _ ?_
    clear hK K
    refine w_reg fun K hK => ?_; simp (disch := omega) only [↓wD, wU, simprocAttr]; refine hK _ _ ?_; clear hK K
    refine w_ret ?_; (with_reducible repeat first | apply q_n | apply q_e | apply q_r | apply bq_n | apply bq_e | apply bq_r | apply bq_o rfl); refine ret1 (by (try simp only [wL, Nat.reduceBEq]); rfl) ?_
    exact failed e2 _ hP
   ·have e2 : numR most (some l) = ((n : Int), some l') := by simp only [numR, hD]; rw [if_neg (by omega)]
    have hb1 : bounds3 l.length c (some (.int .i64 (m : Int))) none none = some (m, l.length, c) := b3_10 (by rw [bd_ok (by omega) (by omega)]; simp)
    have hp1 : Pl a (c = m) = True := bsl_pl hsl fun h0 => by omega
    refine w_reg fun K hK => ?_; simp (disch := omega) only [↓wD, wU, simprocAttr, z1, hmo]; refine hK _ _ ?_; clear hK K
    refine wf ?_
    refine w_skip ?_
    (with_reducible repeat first | apply q_n | apply q_e | apply q_r | apply bq_n | apply bq_e | apply bq_r | apply bq_o rfl)
    refine w_reg fun K hK => ?_; simp (disch := omega) only [↓wD, wU, simprocAttr, h.c0, hb1, hp1, h.fz]; refine hK _ _ ?_; clear hK K
    refine w_reg fun K hK => ?_; simp (disch := omega) only [↓wD, wU, simprocAttr]; refine hK _ _ ?_; clear hK K
    refine w_ret ?_; (with_reducible repeat first | apply q_n | apply q_e | apply q_r | apply bq_n | apply bq_e | apply bq_r | apply bq_o rfl); refine ret1 (by (try simp only [wL, Nat.reduceBEq]); rfl) ?_
    have hP := h.put (st' := some (l.drop m)) rfl (bsl_drop hsl (by omega))
    rw [← hsuf] at hP
    rw [e2]
    exact ⟨rfl, hP⟩
theorem FlagR2_cl {S : Nat → Prop} {H : Hp} {p : Nat} {st : St} {v : Value} (h : Qr S H p st v) :
  Cl Tryz.prog 141 [.pointer (some ⟨p, 0, none⟩)] H fun r H' => r = .bool (flagR st).1 ∧ QrP S H p (flagR st).2 H' := by
 refine cl_of mixed c_watershedref02_Reader_Flag (Nat.le_of_ble_eq_true rfl) ?_
 simp only [fwp, ir_watershedref02_Reader_Flag, argF, Nat.reduceAdd]
 refine w_reg fun K hK => ?_; simp (disch := omega) only [↓wD, wU, simprocAttr]; refine hK _ _ ?_; clear hK K
 refine w_seq (w_seq ?_)
 cases st with
 | none =>
  have c1 := h.c1
  simp only [Option.isNone_none] at c1
  refine w_reg fun K hK => ?_; simp (disch := omega) only [↓wD, wU, simprocAttr, c1]; refine hK _ _ ?_; clear hK K
  refine wt ?_
  refine w_reg fun K hK => ?_; simp (disch := omega) only [↓wD, wU, simprocAttr]; refine hK _ _ ?_; clear hK K
  refine w_ret ?_; (with_reducible repeat first | apply q_n | apply q_e | apply q_r | apply bq_n | apply bq_e | apply bq_r | apply bq_o rfl); refine ret1 (by (try simp only [wL, Nat.reduceBEq]); rfl) ?_
  exact ⟨rfl, KeepOn.refl _ _, v, h⟩
 | some l =>
  have c1 := h.c1
  simp only [Option.isNone_some] at c1
  have hsl : BSl S H v l := h.sl
  obtain ⟨a, c, rfl, hc, hl, hel⟩ := SlP.open hsl
  refine w_reg fun K hK => ?_; simp (disch := omega) only [↓wD, wU, simprocAttr, c1]; refine hK _ _ ?_; clear hK K
  refine wf ?_
  refine w_skip ?_
  (with_reducible repeat first | apply q_n | apply q_e | apply q_r | apply bq_n | apply bq_e | apply bq_r | apply bq_o rfl)
  refine w_seq (w_seq ?_)
  cases l with
  | nil =>
   have hc0 := h.c0
   simp only [List.length_nil] at hc0
   refine w_reg fun K hK => ?_; simp (disch := omega) only [↓wD, wU, simprocAttr, hc0, cast0]; refine hK _ _ ?_; clear hK K
   refine wt ?_
   refine w_reg fun K hK => ?_
   simp (disch := omega) only [↓wD, wU, simprocAttr]
   refine w_call (fail2_cl h) ?_
   rintro _ H3 hP
   simp (disch := omega) only [↓wD, wU, simprocAttr]
   refine hK _ _ ?_
   clear hK K
   refine w_reg fun K hK => ?_; simp (disch := omega) only [↓wD, wU, simprocAttr]; refine hK _ _ ?_; clear hK K
   refine w_ret ?_; (with_reducible repeat first | apply q_n | apply q_e | apply q_r | apply bq_n | apply bq_e | apply bq_r | apply bq_o rfl); refine ret1 (by (try simp only [wL, Nat.reduceBEq]); rfl) ?_
   exact ⟨rfl, hP⟩
  | cons c8 l2 =>
   obtain ⟨b, o, rfl, hS, cs, hcs, rfl⟩ := hel 0 (by simp)
   have hcl := rdn1 hcs
   simp only [Nat.zero_mul, Nat.add_zero, List.getElem_cons_zero] at hcl
   simp only [List.length_cons] at hc hl
   have z0 : (((c8 :: l2).length : Int) = 0) = False := by simp; omega
   have z1 : ((0 : Int) < (((c8 :: l2).length : Nat) : Int)) = True := by simp
   have z2 : ((((l2.length + 1 : Nat) : Int)) = 0) = False := by simp; omega
   have z3 : ((0 : Int) < (((l2.length + 1 : Nat) : Int))) = True := eq_true (by omega)
   have z4 : (0 < l2.length + 1) = True := by simp
   by_cases h1 : 1 < c8.toNat
   ·have z : ((1 : Int) < (c8.toNat : Int)) = True := by simp; omega
    have e : flagR (some (c8 :: l2)) = (false, none) := by simp only [flagR, if_pos h1]
    refine w_reg fun K hK => ?_; simp (disch := omega) only [↓wD, wU, simprocAttr, h.c0, z0, z1, z2, z3, z4, hcl, z]; refine hK _ _ ?_; clear hK K
    refine wt ?_
    refine w_reg fun K hK => ?_
    simp (disch := omega) only [↓wD, wU, simprocAttr]
    refine w_call (fail2_cl h) ?_
    rintro _ H3 hP
    simp (disch := omega) only [↓wD, wU, simprocAttr]
    refine hK _ _ ?_
    clear hK K
    refine w_reg fun K hK => ?_; simp (disch := omega) only [↓wD, wU, simprocAttr]; refine hK _ _ ?_; clear hK K
    refine w_ret ?_; (with_reducible repeat first | apply q_n | apply q_e | apply q_r | apply bq_n | apply bq_e | apply bq_r | apply bq_o rfl); refine ret1 (by (try simp only [wL, Nat.reduceBEq]); rfl) ?_
    rw [e]
    exact ⟨rfl, hP⟩
   ·have z : ((1 : Int) < (c8.toNat : Int)) = False := by simp; omega
    have e : flagR (some (c8 :: l2)) = (decide (c8.toNat = 1), some l2) := by simp only [flagR, if_neg h1]
    have hb1 : bounds3 (l2.length + 1) c (some (.int .i64 1)) none none = some (1, l2.length + 1, c) := b3_10 (by rw [bd_ok (by omega) (by omega)]; simp)
    refine w_reg fun K hK => ?_; simp (disch := omega) only [↓wD, wU, simprocAttr, h.c0, z0, z1, z2, z3, z4, hcl, z]; refine hK _ _ ?_; clear hK K
    refine wf ?_
    refine w_skip ?_
    (with_reducible repeat first | apply q_n | apply q_e | apply q_r | apply bq_n | apply bq_e | apply bq_r | apply bq_o rfl)
    refine w_reg fun K hK => ?_; simp (disch := omega) only [↓wD, wU, simprocAttr, h.c0, z0, z1, z2, z3, z4, hcl, z]; refine hK _ _ ?_; clear hK K
    refine w_reg fun K hK => ?_; simp (disch := omega) only [↓wD, wU, simprocAttr, h.c0, hb1, h.fz]; refine hK _ _ ?_; clear hK K
    refine w_reg fun K hK => ?_; simp (disch := omega) only [↓wD, wU, simprocAttr]; refine hK _ _ ?_; clear hK K
    refine w_ret ?_; (with_reducible repeat first | apply q_n | apply q_e | apply q_r | apply bq_n | apply bq_e | apply bq_r | apply bq_o rfl); refine ret1 (by (try simp only [wL, Nat.reduceBEq]); rfl) ?_
    have hP := h.put (st' := some l2) rfl (bsl_drop (n := 1) hsl (by simp))
    rw [e]
    refine ⟨?_, hP⟩
    have : ((c8.toNat : Int) = 1) = (c8.toNat = 1) := by simp; omega
    simp only [this]
theorem empty_nb (H : Hp) (t : Nat) : NB (fun x => x = H.size) H (H.push (.cells #[] t)) (.slice (some ⟨H.size, 0, none⟩) 0 0) [] :=
 ⟨(Ext.refl _).push _, fun y hy => by simp; omega, Row.empty⟩
theorem RowR2_cl {S : Nat → Prop} {H : Hp} {p : Nat} {st : St} {v : Value} {most : Int} (h : Qr S H p st v) :
  Cl Tryz.prog 140 [.pointer (some ⟨p, 0, none⟩), .int .i64 most] H fun r H' => QrP S H p (rowR most st).2 H' ∧ ∃ M : Nat → Prop, (∀ x, M x → H.size ≤ x ∧ x < H'.size) ∧ Row M H' 1 r (bcs (rowR most st).1) := by
 refine cl_of mixed c_watershedref02_Reader_Row (Nat.le_of_ble_eq_true rfl) ?_
 simp only [fwp, ir_watershedref02_Reader_Row, argF, Nat.reduceAdd]
 have hp := cell_lt h.c0
 refine w_reg fun K hK => ?_; simp (disch := omega) only [↓wD, wU, simprocAttr]; refine hK _ _ ?_; clear hK K
 refine w_reg fun K hK => ?_
 simp (disch := omega) only [↓wD, wU, simprocAttr]
 refine w_call (NumR2_cl (most := most) h) ?_
 rintro _ H1 ⟨rfl, hk1, v1, hR1⟩
 obtain ⟨n, hn, hnt⟩ := numR_nat most st
 simp (disch := omega) only [↓wD, wU, simprocAttr, hn]
 refine hK _ _ ?_
 clear hK K
 refine w_seq (w_seq ?_)
 cases hst : (numR most st).2 with
 | none =>
  rw [hst] at hR1
  have e : rowR most st = ([], none) := by simp only [rowR, hst]
  have c1 := hR1.c1
  simp only [Option.isNone_none] at c1
  refine w_reg fun K hK => ?_; simp (disch := omega) only [↓wD, wU, simprocAttr, c1]; refine hK _ _ ?_; clear hK K
  refine wt ?_
  refine w_reg fun K hK => ?_; simp (disch := omega) only [↓wD, wU, simprocAttr]; refine hK _ _ ?_; clear hK K
  refine w_ret ?_; (with_reducible repeat first | apply q_n | apply q_e | apply q_r | apply bq_n | apply bq_e | apply bq_r | apply bq_o rfl); refine ret1 (by (try simp only [wL, Nat.reduceBEq]); rfl) ?_
  rw [e]
  exact ⟨⟨hk1, v1, hR1⟩, fun _ => False, fun _ h => h.elim, Row.nil⟩
 | some l =>
  rw [hst] at hR1
  have c1 := hR1.c1
  simp only [Option.isNone_some] at c1
  have hsl : BSl S H1 v1 l := hR1.sl
  obtain ⟨a, c, rfl, hc, hl, -⟩ := SlP.open hsl
  refine w_reg fun K hK => ?_; simp (disch := omega) only [↓wD, wU, simprocAttr, c1]; refine hK _ _ ?_; clear hK K
  refine wf ?_
  refine w_skip ?_
  (with_reducible repeat first | apply q_n | apply q_e | apply q_r | apply bq_n | apply bq_e | apply bq_r | apply bq_o rfl)
  refine w_seq (w_seq ?_)
  by_cases hln : l.length < n
  ·have e : rowR most st = ([], none) := by simp only [rowR, hst, hn, Int.toNat_natCast, if_pos hln]
   refine w_reg fun K hK => ?_; simp (disch := omega) only [↓wD, wU, simprocAttr, hR1.c0, hln]; refine hK _ _ ?_; clear hK K
   refine wt ?_
   refine w_reg fun K hK => ?_
   simp (disch := omega) only [↓wD, wU, simprocAttr]
   refine w_call (fail2_cl hR1) ?_
   rintro _ H2 hP
   simp (disch := omega) only [↓wD, wU, simprocAttr]
   refine hK _ _ ?_
   clear hK K
   refine w_reg fun K hK => ?_; simp (disch := omega) only [↓wD, wU, simprocAttr]; refine hK _ _ ?_; clear hK K
   refine w_ret ?_; (with_reducible repeat first | apply q_n | apply q_e | apply q_r | apply bq_n | apply bq_e | apply bq_r | apply bq_o rfl); refine ret1 (by (try simp only [wL, Nat.reduceBEq]); rfl) ?_
   rw [e]
   exact ⟨⟨hk1.trans hP.1, hP.2⟩, fun _ => False, fun _ h => h.elim, Row.nil⟩
  ·have e : rowR most st = (l.take n, some (l.drop n)) := by simp only [rowR, hst, hn, Int.toNat_natCast, if_neg hln]
   have hE1 : Ext H1 (H1.push (.cells #[] 5)) := (Ext.refl _).push _
   have hR1' := hR1.ext hE1
   have c0' := hR1'.c0
   have hsl' : BSl S (H1.push (.cells #[] 5)) (.slice a l.length c) l := hR1'.sl
   have hb1 : bounds3 l.length c none (some (.int .i64 (n : Int))) none = some (0, n, c) := b3_01 (by rw [bd_ok (by omega) (by omega)]; simp)
   have hp1 : Pl a (c = 0) = True := bsl_pl hsl fun h0 => h0
   have hsrc := b_src (bsl_take hsl' (n := n) (by omega))
   have htl : (l.take n).length = n := by rw [List.length_take]; omega
   refine w_reg fun K hK => ?_; simp (disch := omega) only [↓wD, wU, simprocAttr, hR1.c0, hln]; refine hK _ _ ?_; clear hK K
   refine wf ?_
   refine w_skip ?_
   (with_reducible repeat first | apply q_n | apply q_e | apply q_r | apply bq_n | apply bq_e | apply bq_r | apply bq_o rfl)
   refine w_reg fun K hK => ?_
   have c0p := hR1.c0
   have hpl1 := cell_lt c0p
   simp (disch := omega) only [↓wD, wU, simprocAttr, c0p, hb1, hp1, Nat.sub_zero, Nat.zero_mul, Nat.add_zero, hsrc]
   refine app_nb (empty_nb H1 5) (by rw [htl, List.length_nil]; omega) ?_ rfl
   intro v' H3 M3 hnb3 hk3 hM3
   simp (disch := omega) only [↓wD, wU, simprocAttr]
   refine hK _ _ ?_
   clear hK K
   have hs1 := hk1.1
   have hE3 : Ext H1 H3 := hnb3.ext
   have hR3 := hR1.ext hE3
   have hsl3 : BSl S H3 (.slice a l.length c) l := hR3.sl
   have hb2 : bounds3 l.length c (some (.int .i64 (n : Int))) none none = some (n, l.length, c) := b3_10 (by rw [bd_ok (by omega) (by omega)]; simp)
   have hp2 : Pl a (c = n) = True := bsl_pl hsl fun h0 => by omega
   refine w_reg fun K hK => ?_; simp (disch := omega) only [↓wD, wU, simprocAttr, hR3.c0, hb2, hp2, hR3.fz]; refine hK _ _ ?_; clear hK K
   refine w_reg fun K hK => ?_; simp (disch := omega) only [↓wD, wU, simprocAttr]; refine hK _ _ ?_; clear hK K
   refine w_ret ?_; (with_reducible repeat first | apply q_n | apply q_e | apply q_r | apply bq_n | apply bq_e | apply bq_r | apply bq_o rfl); refine ret1 (by (try simp only [wL, Nat.reduceBEq]); rfl) ?_
   have hP := hR3.put (st' := some (l.drop n)) rfl (bsl_drop hsl3 (by omega))
   rw [e]
   refine ⟨⟨(hk1.trans (hE3.on _)).trans hP.1, hP.2⟩, M3, fun x hx => ⟨Nat.le_trans hs1 (hnb3.mem x hx).1, by rw [putc_size]; exact (hnb3.mem x hx).2⟩, ?_⟩
   have hr3 := hnb3.row
   rw [List.nil_append] at hr3
   exact hr3.mono (fun _ h => h) hP.1.1 fun x hx _ => hP.1.2 x (hnb3.mem x hx).2 fun e => by subst e; have := (hnb3.mem x hx).1; omega
end Go.WK
/-
 What the reference's reading of a hold keeps.
-/
namespace Go.WK
open Go Go.Proofs

/-- A reader at p and a hold of one's own at B. -/
structure HS (S : Nat → Prop) (H0 : Hp) (p B : Nat) (H : Hp) (st : St) (cs : List Value) : Prop where
 qr : ∃ v, Qr S H p st v
 bk : Bk H B cs
 keep : KeepOn (fun x => x ≠ p) H0 H
 p0 : p < H0.size
 S0 : ∀ x, S x → x < H0.size
 B0 : H0.size ≤ B
 Bl : B < H.size
theorem HS.next {S : Nat → Prop} {H0 H G : Hp} {p B : Nat} {st st' : St} {cs : List Value} (h : HS S H0 p B H st cs) (hk : KeepOn (fun x => x ≠ p) H G) (hq : ∃ v, Qr S G p st' v) : HS S H0 p B G st' cs :=
 ⟨hq, h.bk.keep (hk.2 B h.Bl (by have := h.p0; have := h.B0; omega)), h.keep.trans hk, h.p0, h.S0, h.B0, Nat.lt_of_lt_of_le h.Bl hk.1⟩
theorem HS.on {S N : Nat → Prop} {H0 H G : Hp} {p B : Nat} {st : St} {cs : List Value} (h : HS S H0 p B H st cs) (hk : KeepOn (fun x => ¬ N x) H G) (hN : ∀ x, N x → H0.size ≤ x ∧ x ≠ B) : HS S H0 p B G st cs := by
 have hb := h.p0
 obtain ⟨v, hq⟩ := h.qr
 refine ⟨⟨v, hq.keep hk.1 fun x hx hs => hk.2 x hx fun hn => ?_⟩, h.bk.keep (hk.2 B h.Bl fun hn => (hN B hn).2 rfl), ⟨Nat.le_trans h.keep.1 hk.1, fun x hx hxp => ?_⟩, h.p0, h.S0, h.B0, Nat.lt_of_lt_of_le h.Bl hk.1⟩
 ·have h1 := (hN x hn).1
  rcases hs with h2 | h2
  ·have := h.S0 x h2; omega
  ·omega
 ·rw [hk.2 x (Nat.lt_of_lt_of_le hx h.keep.1) fun hn => by have := (hN x hn).1; omega]
  exact h.keep.2 x hx hxp
theorem HS.ext {S : Nat → Prop} {H0 H G : Hp} {p B : Nat} {st : St} {cs : List Value} (h : HS S H0 p B H st cs) (hE : Ext H G) : HS S H0 p B G st cs :=
 h.on (N := fun _ => False) (hE.on _) fun _ h => h.elim
theorem HS.put {S : Nat → Prop} {H0 H : Hp} {p B : Nat} {st : St} {cs : List Value} (h : HS S H0 p B H st cs) (j : Nat) (v : Value) (hj : j < cs.length) : HS S H0 p B (putc H B j v) st (cs.set j v) := by
 have hb := h.p0
 have hb2 := h.B0
 obtain ⟨w, hq⟩ := h.qr
 have hk := putc_keep H B j v
 refine ⟨⟨w, hq.keep hk.1 fun x hx hs => hk.2 x hx fun e => ?_⟩, h.bk.put j v hj, ⟨Nat.le_trans h.keep.1 hk.1, fun x hx hxp => ?_⟩, h.p0, h.S0, h.B0, by rw [putc_size]; exact h.Bl⟩
 ·rcases hs with h2 | h2
  ·have := h.S0 x h2; omega
  ·omega
 ·rw [hk.2 x (Nat.lt_of_lt_of_le hx h.keep.1) (by omega)]
  exact h.keep.2 x hx hxp
/-- A row of things of one's own, from a mark on. -/
def Acm {α : Type} (El : List Value → α → Prop) (k N0 B : Nat) (H : Hp) (v : Value) (L : List α) : Prop := ∃ (M : Nat → Prop) (css : List (List Value)), Row M H k v css ∧ css.length = L.length ∧ (∀ i (hi : i < css.length) (hl : i < L.length), El css[i] L[i]) ∧ ∀ x, M x → N0 ≤ x ∧ x < H.size ∧ x ≠ B
section
variable {α : Type} {El : List Value → α → Prop} {k N0 B : Nat} {H G : Hp} {v : Value} {L : List α}
theorem Acm.nil : Acm El k N0 B H (.slice none 0 0) [] := ⟨fun _ => False, [], Row.nil, rfl, fun i hi => by simp at hi, fun _ h => h.elim⟩
theorem Acm.on {N : Nat → Prop} (h : Acm El k N0 B H v L) (hk : KeepOn (fun x => ¬ N x) H G) (hN : ∀ x, N x → x < N0 ∨ H.size ≤ x ∨ x = B) : Acm El k N0 B G v L := by
 obtain ⟨M, css, h1, h2, h3, h4⟩ := h
 refine ⟨M, css, h1.mono (fun _ h => h) hk.1 fun b hb hb' => hk.2 b hb' fun hn => ?_, h2, h3, fun x hx => ⟨(h4 x hx).1, Nat.lt_of_lt_of_le (h4 x hx).2.1 hk.1, (h4 x hx).2.2⟩⟩
 have h5 := h4 b hb
 rcases hN b hn with h | h | h <;> omega
theorem Acm.ext (h : Acm El k N0 B H v L) (hE : Ext H G) : Acm El k N0 B G v L := h.on (N := fun _ => False) (hE.on _) fun _ h => h.elim
theorem Acm.put (h : Acm El k N0 B H v L) (j : Nat) (u : Value) : Acm El k N0 B (putc H B j u) v L := h.on (N := fun x => x = B) (putc_keep H B j u) fun x hx => .inr (.inr hx)
theorem Acm.next {p : Nat} (h : Acm El k N0 B H v L) (hk : KeepOn (fun x => x ≠ p) H G) (hp : p < N0) : Acm El k N0 B G v L := h.on (N := fun x => x = p) hk fun x hx => .inl (by omega)
theorem Acm.form (h : Acm El k N0 B H v L) : ∃ a c, v = .slice a L.length c := by
 obtain ⟨M, css, h1, h2, -⟩ := h
 obtain ⟨a, c, e⟩ := h1.form
 exact ⟨a, c, by rw [← h2]; exact e⟩
theorem Acm.slp (h : Acm El k N0 B H v L) (hl : L.length ≤ 140737488355328) : SlP (fun x => N0 ≤ x ∧ x < H.size ∧ x ≠ B) H k El v L := by
 obtain ⟨M, css, h1, h2, h3, h4⟩ := h
 exact SlP.mono (h1.slp h2 hl h3) h4 (fun _ _ _ => rfl) fun _ _ _ h => h
theorem app_acm {t bytes : Nat} {z : List Value} {κ : Value → Hp → Prop} {cs : List Value} {x : α} (h : Acm El k N0 B H v L) (hc : cs.length = k ∧ One cs) (he : El cs x) (hz : z.length = k) (hb : bytes ≠ 0) (hsz : (L.length + 1) * bytes ≤ 140737488355328) (hN : N0 ≤ H.size) (hB : B < H.size)
  (hκ : ∀ (N : Nat → Prop) a' c' H', Acm El k N0 B H' (.slice a' (L.length + 1) c') (L ++ [x]) → KeepOn (fun x => ¬ N x) H H' → (∀ x, N x → N0 ≤ x ∧ x ≠ B) → κ (.slice a' (L.length + 1) c') H') {a : Option Addr} {n c : Nat} (ha : v = .slice a n c) :
  @appK H t k bytes z a n c 1 cs ⟨κ⟩ := by
 obtain ⟨M, css, h1, h2, h3, h4⟩ := h
 refine app_one h1 (fun x hx => (h4 x hx).2.1) hc hz hb (by rw [h2]; exact hsz) (fun v' H' hrow hk hs => ?_) ha
 have hl : (css ++ [cs]).length = L.length + 1 := by simp [h2]
 have hs' := hk.1
 obtain ⟨a', c', rfl⟩ := hrow.form
 rw [hl] at hrow ⊢
 refine hκ M a' c' H' ⟨_, css ++ [cs], hrow.lt, by simp [h2], fun i hi hl => ?_, ?_⟩ hk fun x hx => ⟨(h4 x hx).1, (h4 x hx).2.2⟩
 ·by_cases hil : i < css.length
  ·rw [List.getElem_append_left hil, List.getElem_append_left (by omega)]
   exact h3 i hil (by omega)
  ·simp only [List.length_append, List.length_cons, List.length_nil] at hi hl
   rw [List.getElem_append_right (by omega), List.getElem_append_right (by omega)]
   have e1 : i - css.length = 0 := by omega
   have e2 : i - L.length = 0 := by omega
   simp only [e1, e2, List.getElem_cons_zero]
   exact he
 ·rintro y ⟨hy | hy, hy2⟩
  ·exact ⟨(h4 y hy).1, hy2, (h4 y hy).2.2⟩
  ·exact ⟨by omega, hy2, by omega⟩
end
end Go.WK
/-
 The reference's reading of a hold.
-/
namespace Go.WK
open Go Go.Proofs

theorem ko_put {p y j : Nat} {v : Value} {A G : Hp} (hk : KeepOn (fun x => x ≠ p) A G) (hy : A.size ≤ y) : KeepOn (fun x => x ≠ p) A (putc G y j v) :=
 ⟨by rw [putc_size]; exact hk.1, fun x hx hxp => by rw [putc_ne (by omega)]; exact hk.2 x hx hxp⟩
theorem HS.puty {S : Nat → Prop} {H0 H : Hp} {p B y j : Nat} {v : Value} {st : St} {cs : List Value} (h : HS S H0 p B H st cs) (h0 : H0.size ≤ y) (hB : y ≠ B) : HS S H0 p B (putc H y j v) st cs :=
 h.on (N := fun x => x = y) (putc_keep H y j v) fun x hx => ⟨by omega, by omega⟩
set_option maxHeartbeats 8000000 in
theorem hold16_cl {S : Nat → Prop} {H : Hp} {p : Nat} {st : St} {v : Value} (h : Qr S H p st v) :
  Cl Tryz.prog 78 [.pointer (some ⟨p, 0, none⟩)] H fun r H' => QrP S H p (hdR st).2 H' ∧ ∃ (cs : List Value) (G : Nat → Prop), r = .tuple #[.agg cs.toArray, .bool ((hdR st).1.2 && !(hdR st).2.isNone)] ∧ (∀ x, G x → H.size ≤ x ∧ x < H'.size) ∧ ElHd G H' cs (hdR st).1.1 := by
 refine cl_of mixed c_watershedref16_hold (Nat.le_of_ble_eq_true rfl) ?_
 simp only [fwp, ir_watershedref16_hold, argF, Nat.reduceAdd]
 have hp := cell_lt h.c0
 obtain ⟨k, hk⟩ : ∃ k, k = textR 20 st := ⟨_, rfl⟩
 obtain ⟨c, hc⟩ : ∃ c, c = numR 8 k.2 := ⟨_, rfl⟩
 obtain ⟨n, hn⟩ : ∃ n, n = numR 1073741824 c.2 := ⟨_, rfl⟩
 obtain ⟨a, ha⟩ : ∃ a, a = actsR k.1 n.2 := ⟨_, rfl⟩
 obtain ⟨r, hr⟩ : ∃ r, r = readsR k.1 a.2 := ⟨_, rfl⟩
 obtain ⟨b, hb⟩ : ∃ b, b = flagR r.2 := ⟨_, rfl⟩
 obtain ⟨w, hw⟩ : ∃ w, w = textR 20 b.2 := ⟨_, rfl⟩
 have eR : hdR st = ((⟨k.1, ⟨c.1, n.1⟩, a.1.1, r.1, b.1, w.1⟩, a.1.2 && rightB ⟨k.1, ⟨c.1, n.1⟩, a.1.1, r.1, b.1, w.1⟩), w.2) := by
  subst hw hb hr ha hn hc hk; rfl
 rw [eR]
 clear eR
 have hkz := textR_sz 20 st (by omega) (by omega)
 rw [← hk] at hkz
 have hcb := numR_bd 8 k.2 (by omega)
 rw [← hc] at hcb
 have hnb := numR_bd 1073741824 c.2 (by omega)
 rw [← hn] at hnb
 refine w_reg fun K hK => ?_; simp (disch := omega) only [↓wD, wU, simprocAttr]; refine hK _ _ ?_; clear hK K
 have hE1 : Ext H (H.push (.cells #[.string .empty, .int .i64 0, .int .i64 0, .slice none 0 0, .slice none 0 0, .bool false, .string .empty] 35)) := (Ext.refl _).push _
 have hBR := Bk.new H [.string .empty, .int .i64 0, .int .i64 0, .slice none 0 0, .slice none 0 0, .bool false, .string .empty] 35
 have hs1 : (H.push (.cells #[.string .empty, .int .i64 0, .int .i64 0, .slice none 0 0, .slice none 0 0, .bool false, .string .empty] 35)).size = H.size + 1 := by simp
 generalize H.push (.cells #[.string .empty, .int .i64 0, .int .i64 0, .slice none 0 0, .slice none 0 0, .bool false, .string .empty] 35) = H1 at hE1 hBR hs1 ⊢
 obtain ⟨R, hRe⟩ : ∃ R, R = H.size := ⟨_, rfl⟩
 rw [← hRe] at hBR ⊢
 -- the key
 refine w_reg fun K hK => ?_
 simp (disch := omega) only [↓wD, wU, simprocAttr]
 refine w_call (RowR2_cl (most := 20) (h.ext hE1)) ?_
 rintro _ H2 ⟨⟨hk2, v2, hR2⟩, M2, hM2, hrow2⟩
 obtain ⟨a2, c2, rfl⟩ := hrow2.form
 have ek : (⟨(rowR 20 st).1.toArray⟩ : ByteArray) = k.1 := by rw [hk]; rfl
 have ek2 : (rowR 20 st).2 = k.2 := by rw [hk]; rfl
 simp (disch := omega) only [↓wD, wU, simprocAttr]
 refine w_cbs hrow2 ?_
 rw [ek]
 simp (disch := omega) only [↓wD, wU, simprocAttr]
 refine hK _ _ ?_
 clear hK K
 rw [ek2] at hR2
 have hs : HS S H1 p H2.size (H2.push (.cells #[.string k.1, .int .i64 0, .int .i64 0, .slice none 0 0, .slice none 0 0, .bool false, .string .empty] 35)) k.2 [.string k.1, .int .i64 0, .int .i64 0, .slice none 0 0, .slice none 0 0, .bool false, .string .empty] :=
  ⟨⟨v2, hR2.ext ((Ext.refl _).push _)⟩, Bk.new H2 [.string k.1, .int .i64 0, .int .i64 0, .slice none 0 0, .slice none 0 0, .bool false, .string .empty] 35, hk2.trans (((Ext.refl _).push _).on _), by omega, fun x hx => by have := h.lt x hx; omega, hk2.1, by simp⟩
 generalize H2.push (.cells #[.string k.1, .int .i64 0, .int .i64 0, .slice none 0 0, .slice none 0 0, .bool false, .string .empty] 35) = G2 at hs ⊢
 generalize H2.size = B at hs ⊢
 clear hk2 hR2 hM2 hrow2
 -- the name
 obtain ⟨v3, hq3⟩ := hs.qr
 refine w_reg fun K hK => ?_
 simp (disch := omega) only [↓wD, wU, simprocAttr]
 refine w_call (NumR2_cl (most := 8) hq3) ?_
 rintro _ H3 ⟨rfl, hP3⟩
 rw [← hc] at hP3 ⊢
 have hs3 := hs.next hP3.1 hP3.2
 simp (disch := omega) only [↓wD, wU, simprocAttr, hs3.bk.cell 1 (by simp), hs3.bk.fz]
 refine hK _ _ ?_
 clear hK K
 have hs3' := hs3.put 1 (.int .i64 c.1) (by simp)
 simp only [List.set_cons_succ, List.set_cons_zero] at hs3'
 generalize putc H3 B 1 (.int .i64 c.1) = G3 at hs3' ⊢
 clear hs hP3 hs3 hq3
 obtain ⟨v4, hq4⟩ := hs3'.qr
 refine w_reg fun K hK => ?_
 simp (disch := omega) only [↓wD, wU, simprocAttr]
 refine w_call (NumR2_cl (most := 1073741824) hq4) ?_
 rintro _ H4 ⟨rfl, hP4⟩
 rw [← hn] at hP4 ⊢
 have hs4 := hs3'.next hP4.1 hP4.2
 simp (disch := omega) only [↓wD, wU, simprocAttr, hs4.bk.cell 2 (by simp), hs4.bk.fz]
 refine hK _ _ ?_
 clear hK K
 have hs4' := hs4.put 2 (.int .i64 n.1) (by simp)
 simp only [List.set_cons_succ, List.set_cons_zero] at hs4'
 generalize putc H4 B 2 (.int .i64 n.1) = G4 at hs4' ⊢
 clear hs3' hP4 hs4 hq4
 -- the acts
 obtain ⟨v5, hq5⟩ := hs4'.qr
 refine w_reg fun K hK => ?_
 simp (disch := omega) only [↓wD, wU, simprocAttr]
 refine w_call (NumR2_cl (most := 6) hq5) ?_
 rintro _ H5 ⟨rfl, hP5⟩
 obtain ⟨ha0, ha6⟩ := numR_bd 6 n.2 (by omega)
 obtain ⟨an, han⟩ : ∃ an : Nat, (numR 6 n.2).1 = an := ⟨(numR 6 n.2).1.toNat, by omega⟩
 have eA : a = actsL k.1 an [] true (numR 6 n.2).2 := by rw [ha]; unfold actsR; rw [han, Int.toNat_natCast]
 rw [han] at ha6
 have hs5 := hs4'.next hP5.1 hP5.2
 simp (disch := omega) only [↓wD, wU, simprocAttr, han]
 refine hK _ _ ?_
 clear hK K
 clear hs4' hP5 hq5
 refine w_reg fun K hK => ?_; simp (disch := omega) only [↓wD, wU, simprocAttr]; refine hK _ _ ?_; clear hK K
 refine w_seq ?_
 refine w_reg fun K hK => ?_; simp (disch := omega) only [↓wD, wU, simprocAttr]; refine hK _ _ ?_; clear hK K
 refine w_blk (w_loop (fun n' f A => f 0 = .pointer (some ⟨p, 0, none⟩) ∧ f 2 = .pointer (some ⟨R, 0, none⟩) ∧ f 4 = .pointer (some ⟨B, 0, none⟩) ∧ f 5 = .int .i64 an ∧ ∃ (i : Nat) (L : List Ac) (ok : Bool) (sti : St) (u : Value), f 7 = .int .i64 i ∧ i ≤ an ∧ n' = an - i ∧ f 6 = .bool ok ∧ HS S H1 p B A sti [.string k.1, .int .i64 c.1, .int .i64 n.1, u, .slice none 0 0, .bool false, .string .empty] ∧ Acm ElAc 4 H1.size B A u L ∧ L.length = i ∧ actsL k.1 (an - i) L ok sti = a) an ⟨(by simp only [wL, Nat.reduceBEq]), (by simp only [wL, Nat.reduceBEq]), (by simp only [wL, Nat.reduceBEq]), (by simp only [wL, Nat.reduceBEq]), 0, [], true, _, _, (by simp only [wL, Nat.reduceBEq]; rfl), Nat.zero_le _, rfl, (by simp only [wL, Nat.reduceBEq]), hs5, Acm.nil, rfl, by rw [Nat.sub_zero, eA]⟩ ?_)
 clear hs5 eA
 rintro n' f A ⟨f0, f2, f4, f5, i, L, ok, sti, u, f7, hi, rfl, f6, hs, hA, hLi, hD⟩
 have hp1 := hs.p0
 have hB0 := hs.B0
 have hsz := hs.keep.1
 refine w_seq (w_seq ?_)
 by_cases hil : i < an
 ·refine w_reg fun K hK => ?_; simp (disch := omega) only [↓wD, wU, simprocAttr, f5, f7, hil]; refine hK _ _ ?_; clear hK K
  refine wt ?_
  refine w_skip ?_
  (with_reducible repeat first | apply q_n | apply q_e | apply q_r | apply bq_n | apply bq_e | apply bq_r | apply bq_o rfl)
  refine w_seq (w_blk ?_)
  obtain ⟨v6, hq6⟩ := hs.qr
  have hb0 := hs.bk.cell 0 (by simp)
  simp only [List.getElem_cons_zero] at hb0
  have hb1 := numR_bd 3 sti (by omega)
  have hu8 : IntKind.u8.wrap (numR 3 sti).1 = (numR 3 sti).1 := wr8 (by omega) (by omega)
  refine w_alc (fun x => x = B) (fun x => x = p) (fun x hx => hx ▸ cell_lt hq6.c0) fun K hK => ?_
  simp (disch := omega) only [↓a_nil, ↓a_st, ↓a_new, ↓a_box, ↓a_bsl, ↓a_ac, ↓a_ft, ↓a_ff, p_nil, p_new, p_box, p_bsl, ↓ow_s, ↓ow_e, ↓ow_g, ↓l_nil, ↓l_f, ↓l_t, ↓o_s, ↓o_e, ↓o_g, ↓o_ge, ↓k_ld, ↓k_ldn, isemS, ↓wD, wU, simprocAttr, f0, f4, hb0]
  refine w_ac fun G1 gE1 => ?_
  simp (disch := omega) only [↓a_nil, ↓a_st, ↓a_new, ↓a_box, ↓a_bsl, ↓a_ac, ↓a_ft, ↓a_ff, p_nil, p_new, p_box, p_bsl, ↓ow_s, ↓ow_e, ↓ow_g, ↓l_nil, ↓l_f, ↓l_t, ↓o_s, ↓o_e, ↓o_g, ↓o_ge, ↓k_ld, ↓k_ldn, isemS, ↓wD, wU, simprocAttr, f0]
  refine w_call (NumR2_cl (most := 3) (hq6.ext gE1)) ?_
  rintro _ G2 ⟨rfl, gk2, gv2, gR2⟩
  simp (disch := omega) only [↓a_nil, ↓a_st, ↓a_new, ↓a_box, ↓a_bsl, ↓a_ac, ↓a_ft, ↓a_ff, p_nil, p_new, p_box, p_bsl, ↓ow_s, ↓ow_e, ↓ow_g, ↓l_nil, ↓l_f, ↓l_t, ↓o_s, ↓o_e, ↓o_g, ↓o_ge, ↓k_ld, ↓k_ldn, isemS, ↓wD, wU, simprocAttr]
  refine ⟨fun x => x = p, fun x hx => .inl hx, fun x hx => hx ▸ cell_lt gR2.c0, gk2.1, fun x hx hh => gk2.2 x hx (hh.elim (fun h => h.1) fun e => by omega), ?_⟩
  simp (disch := omega) only [↓a_nil, ↓a_st, ↓a_new, ↓a_box, ↓a_bsl, ↓a_ac, ↓a_ft, ↓a_ff, p_nil, p_new, p_box, p_bsl, ↓ow_s, ↓ow_e, ↓ow_g, ↓l_nil, ↓l_f, ↓l_t, ↓o_s, ↓o_e, ↓o_g, ↓o_ge, ↓k_ld, ↓k_ldn, isemS, ↓wD, wU, simprocAttr, hu8]
  refine w_al fun y G3 gE3 hny hby hFy hAy hcy => ?_
  have hBy := Bk.at (cs := [.int .u8 0, .string .empty, .string .empty, .int .i64 0]) hcy
  obtain ⟨G4, gw, gW⟩ := wrn_ok (l := [.int .u8 (numR 3 sti).1, .string k.1, .string .empty, .int .i64 0]) hBy.own (by intro v hv; simp at hv; rcases hv with rfl | rfl | rfl | rfl <;> rfl)
  simp (disch := omega) only [↓a_nil, ↓a_st, ↓a_new, ↓a_box, ↓a_bsl, ↓a_ac, ↓a_ft, ↓a_ff, p_nil, p_new, p_box, p_bsl, ↓ow_s, ↓ow_e, ↓ow_g, ↓l_nil, ↓l_f, ↓l_t, ↓o_s, ↓o_e, ↓o_g, ↓o_ge, ↓k_ld, ↓k_ldn, isemS, ↓wD, wU, simprocAttr, gw, hu8]
  refine hK _ _ ?_
  clear hK K
  have gs1 := gE1.1
  have gs2 := gk2.1
  have gs3 := gE3.1
  have hyp : y ≠ p := fun e => hFy e
  have hyA : A.size ≤ y := hny
  have hyB : y ≠ B := by have := hs.Bl; omega
  have hB4 : Bk G4 y [.int .u8 (numR 3 sti).1, .string k.1, .string .empty, .int .i64 0] := ⟨gW.rdn_at, fun i => by rw [gW.frz]; exact hBy.fz i⟩
  have hkA4 : KeepOn (fun x => x ≠ p) A G4 := ⟨by rw [gW.size]; omega, fun x hx hxp => by rw [gW.other x (by omega), gE3.2 x (by omega), gk2.2 x (by omega) hxp, gE1.2 x hx]⟩
  have hq4 : Qr S G4 p (numR 3 sti).2 gv2 := (gR2.ext gE3).keep (by rw [gW.size]; exact Nat.le_refl _) fun x hx hsx => gW.other x (by
   rcases hsx with h | h
   ·have := hs.S0 x h; omega
   ·omega)
  have hs4 := hs.next hkA4 ⟨gv2, hq4⟩
  clear gE1 gk2 gR2 gE3 hBy gw gW hcy hFy hAy hny gs1 gs2 gs3
  obtain ⟨kd, hkd⟩ : ∃ kd, kd = numR 3 sti := ⟨_, rfl⟩
  obtain ⟨tx, htx⟩ : ∃ tx, tx = textR 20 kd.2 := ⟨_, rfl⟩
  obtain ⟨fl, hfl⟩ : ∃ fl, fl = flagR tx.2 := ⟨_, rfl⟩
  obtain ⟨nm, hnm⟩ : ∃ nm, nm = numR 1073741824 fl.2 := ⟨_, rfl⟩
  have hact : actR k.1 sti = ((⟨kd.1, k.1, tx.1, if fl.1 then -nm.1 else nm.1⟩, !fl.1 || decide (0 < nm.1)), nm.2) := by rw [hnm, hfl, htx, hkd]; rfl
  rw [← hkd] at hs4 hB4 hb1 ⊢
  have hyl := hB4.lt (by simp)
  have hy1 : H1.size ≤ y := by omega
  have htz := textR_sz 20 kd.2 (by omega) (by omega)
  rw [← htx] at htz
  obtain ⟨hm0, hm1⟩ := numR_bd 1073741824 fl.2 (by omega)
  rw [← hnm] at hm0 hm1
  obtain ⟨v7, hq7⟩ := hs4.qr
  refine w_reg fun K hK => ?_
  simp (disch := omega) only [↓wD, wU, simprocAttr, f0]
  refine w_call (RowR2_cl (most := 20) hq7) ?_
  rintro _ G5 ⟨hP5, M5, hM5, hrow5⟩
  obtain ⟨a5, c5, rfl⟩ := hrow5.form
  have ek : (⟨(rowR 20 kd.2).1.toArray⟩ : ByteArray) = tx.1 := by rw [htx]; rfl
  have ek2 : (rowR 20 kd.2).2 = tx.2 := by rw [htx]; rfl
  rw [ek2] at hP5
  have hB5 := hB4.keep (hP5.1.2 y hyl hyp)
  simp (disch := omega) only [↓wD, wU, simprocAttr]
  refine w_cbs hrow5 ?_
  rw [ek]
  simp (disch := omega) only [↓wD, wU, simprocAttr, hB5.cell 2 (by simp), hB5.fz]
  refine hK _ _ ?_
  clear hK K
  have hs5 := (hs4.next hP5.1 hP5.2).puty (j := 2) (v := .string tx.1) hy1 hyB
  have hkA5 := ko_put (j := 2) (v := .string tx.1) (hkA4.trans hP5.1) hyA
  have hB5' := hB5.put 2 (.string tx.1) (by simp)
  simp only [List.set_cons_succ, List.set_cons_zero] at hB5'
  generalize putc G5 y 2 (.string tx.1) = G6 at hs5 hkA5 hB5' ⊢
  clear hs4 hkA4 hB4 hB5 hP5 hq7 hM5 hrow5 hyl
  have hyl := hB5'.lt (by simp)
  obtain ⟨v8, hq8⟩ := hs5.qr
  refine w_reg fun K hK => ?_
  simp (disch := omega) only [↓wD, wU, simprocAttr, f0]
  refine w_call (FlagR2_cl hq8) ?_
  rintro _ G7 ⟨rfl, hP7⟩
  rw [← hfl] at hP7 ⊢
  simp (disch := omega) only [↓wD, wU, simprocAttr]
  refine hK _ _ ?_
  clear hK K
  have hs7 := hs5.next hP7.1 hP7.2
  have hkA7 := hkA5.trans hP7.1
  have hB7 := hB5'.keep (hP7.1.2 y hyl hyp)
  clear hs5 hkA5 hB5' hP7 hq8 hyl
  have hyl := hB7.lt (by simp)
  obtain ⟨v9, hq9⟩ := hs7.qr
  refine w_reg fun K hK => ?_
  simp (disch := omega) only [↓wD, wU, simprocAttr, f0]
  refine w_call (NumR2_cl (most := 1073741824) hq9) ?_
  rintro _ G8 ⟨rfl, hP8⟩
  rw [← hnm] at hP8 ⊢
  have hB8 := hB7.keep (hP8.1.2 y hyl hyp)
  simp (disch := omega) only [↓wD, wU, simprocAttr, hB8.cell 3 (by simp), hB8.fz]
  refine hK _ _ ?_
  clear hK K
  have hs8 := (hs7.next hP8.1 hP8.2).puty (j := 3) (v := .int .i64 nm.1) hy1 hyB
  have hkA8 := ko_put (j := 3) (v := .int .i64 nm.1) (hkA7.trans hP8.1) hyA
  have hB8' := hB8.put 3 (.int .i64 nm.1) (by simp)
  simp only [List.set_cons_succ, List.set_cons_zero] at hB8'
  generalize putc G8 y 3 (.int .i64 nm.1) = G9 at hs8 hkA8 hB8' ⊢
  clear hs7 hkA7 hB7 hB8 hP8 hq9 hyl
  have y3 := hB8'.cell 3 (by simp)
  simp only [List.getElem_cons_zero, List.getElem_cons_succ] at y3
  obtain ⟨bl, hbl⟩ : ∃ bl, bl = fl.1 := ⟨_, rfl⟩
  obtain ⟨m, hm⟩ : ∃ m, m = nm.1 := ⟨_, rfl⟩
  rw [← hbl, ← hm] at hact
  rw [← hm] at hm0 hm1 y3 hB8'
  rw [← hbl]
  refine w_cut (fun g G => G9 = G ∧ g 0 = .pointer (some ⟨p, 0, none⟩) ∧ g 2 = .pointer (some ⟨R, 0, none⟩) ∧ g 4 = .pointer (some ⟨B, 0, none⟩) ∧ g 5 = .int .i64 an ∧ g 7 = .int .i64 i ∧ g 8 = .pointer (some ⟨y, 0, none⟩) ∧ g 9 = .bool bl ∧ g 6 = .bool (ok && (!bl || decide (0 < m)))) ?_ ?_
  ·cases ok with
   | false =>
    refine w_reg1 fun K hK => ?_; simp (disch := omega) only [↓wD, wU, simprocAttr, f6]; refine hK _ _ ?_; clear hK K
    (with_reducible repeat first | apply q_n | apply q_e | apply q_r | apply bq_n | apply bq_e | apply bq_r | apply bq_o rfl)
    exact ⟨rfl, (by simp only [wL, Nat.reduceBEq, f0]), (by simp only [wL, Nat.reduceBEq, f2]), (by simp only [wL, Nat.reduceBEq, f4]), (by simp only [wL, Nat.reduceBEq, f5]), (by simp only [wL, Nat.reduceBEq, f7]), (by simp only [wL, Nat.reduceBEq]), (by simp only [wL, Nat.reduceBEq]), (by simp only [wL, Nat.reduceBEq]; rfl)⟩
   | true =>
    cases bl with
    | false =>
     refine w_reg1 fun K hK => ?_; simp (disch := omega) only [↓wD, wU, simprocAttr, f6]; refine hK _ _ ?_; clear hK K
     (with_reducible repeat first | apply q_n | apply q_e | apply q_r | apply bq_n | apply bq_e | apply bq_r | apply bq_o rfl)
     exact ⟨rfl, (by simp only [wL, Nat.reduceBEq, f0]), (by simp only [wL, Nat.reduceBEq, f2]), (by simp only [wL, Nat.reduceBEq, f4]), (by simp only [wL, Nat.reduceBEq, f5]), (by simp only [wL, Nat.reduceBEq, f7]), (by simp only [wL, Nat.reduceBEq]), (by simp only [wL, Nat.reduceBEq]), (by simp only [wL, Nat.reduceBEq]; rfl)⟩
    | true =>
     by_cases hm00 : m = 0
     ·subst hm00
      refine w_reg1 fun K hK => ?_; simp (disch := omega) only [↓wD, wU, simprocAttr, f6, y3]; refine hK _ _ ?_; clear hK K
      (with_reducible repeat first | apply q_n | apply q_e | apply q_r | apply bq_n | apply bq_e | apply bq_r | apply bq_o rfl)
      exact ⟨rfl, (by simp only [wL, Nat.reduceBEq, f0]), (by simp only [wL, Nat.reduceBEq, f2]), (by simp only [wL, Nat.reduceBEq, f4]), (by simp only [wL, Nat.reduceBEq, f5]), (by simp only [wL, Nat.reduceBEq, f7]), (by simp only [wL, Nat.reduceBEq]), (by simp only [wL, Nat.reduceBEq]), (by simp only [wL, Nat.reduceBEq]; rfl)⟩
     ·have hpos : decide (0 < m) = true := by simp; omega
      refine w_reg1 fun K hK => ?_; simp (disch := omega) only [↓wD, wU, simprocAttr, f6, y3, hm00]; refine hK _ _ ?_; clear hK K
      (with_reducible repeat first | apply q_n | apply q_e | apply q_r | apply bq_n | apply bq_e | apply bq_r | apply bq_o rfl)
      exact ⟨rfl, (by simp only [wL, Nat.reduceBEq, f0]), (by simp only [wL, Nat.reduceBEq, f2]), (by simp only [wL, Nat.reduceBEq, f4]), (by simp only [wL, Nat.reduceBEq, f5]), (by simp only [wL, Nat.reduceBEq, f7]), (by simp only [wL, Nat.reduceBEq]), (by simp only [wL, Nat.reduceBEq]), (by simp only [wL, Nat.reduceBEq, hpos, Bool.or_true, Bool.and_true])⟩
  clear f0 f2 f4 f5 f6 f7 y3
  rintro f _ ⟨rfl, f0, f2, f4, f5, f7, f8, f9, f6⟩
  have hneg : IntKind.i64.wrap (0 - m) = -m := by rw [wr64 (by omega) (by omega)]; omega
  have y3 := hB8'.cell 3 (by simp)
  simp only [List.getElem_cons_zero, List.getElem_cons_succ] at y3
  refine w_cut (fun g G => g 0 = .pointer (some ⟨p, 0, none⟩) ∧ g 2 = .pointer (some ⟨R, 0, none⟩) ∧ g 4 = .pointer (some ⟨B, 0, none⟩) ∧ g 5 = .int .i64 an ∧ g 7 = .int .i64 i ∧ g 8 = .pointer (some ⟨y, 0, none⟩) ∧ g 6 = .bool (ok && (!bl || decide (0 < m))) ∧ HS S H1 p B G nm.2 [.string k.1, .int .i64 c.1, .int .i64 n.1, u, .slice none 0 0, .bool false, .string .empty] ∧ KeepOn (fun x => x ≠ p) A G ∧ Bk G y [.int .u8 kd.1, .string k.1, .string tx.1, .int .i64 (if bl then -m else m)]) ?_ ?_
  ·refine w_seq ?_
   refine w_reg fun K hK => ?_; simp (disch := omega) only [↓wD, wU, simprocAttr, f9]; refine hK _ _ ?_; clear hK K
   cases bl with
   | false =>
    refine wf ?_
    refine w_skip ?_
    (with_reducible repeat first | apply q_n | apply q_e | apply q_r | apply bq_n | apply bq_e | apply bq_r | apply bq_o rfl)
    exact ⟨(by simp only [wL, Nat.reduceBEq, f0]), (by simp only [wL, Nat.reduceBEq, f2]), (by simp only [wL, Nat.reduceBEq, f4]), (by simp only [wL, Nat.reduceBEq, f5]), (by simp only [wL, Nat.reduceBEq, f7]), (by simp only [wL, Nat.reduceBEq, f8]), (by simp only [wL, Nat.reduceBEq, f6]), hs8, hkA8, hB8'⟩
   | true =>
    refine wt ?_
    refine w_reg1 fun K hK => ?_; simp (disch := omega) only [↓wD, wU, simprocAttr, f8, y3, hneg, hB8'.fz]; refine hK _ _ ?_; clear hK K
    (with_reducible repeat first | apply q_n | apply q_e | apply q_r | apply bq_n | apply bq_e | apply bq_r | apply bq_o rfl)
    have hB9 := hB8'.put 3 (.int .i64 (-m)) (by simp)
    simp only [List.set_cons_succ, List.set_cons_zero] at hB9
    exact ⟨(by simp only [wL, Nat.reduceBEq, f0]), (by simp only [wL, Nat.reduceBEq, f2]), (by simp only [wL, Nat.reduceBEq, f4]), (by simp only [wL, Nat.reduceBEq, f5]), (by simp only [wL, Nat.reduceBEq, f7]), (by simp only [wL, Nat.reduceBEq, f8]), (by simp only [wL, Nat.reduceBEq, f6]), hs8.puty hy1 hyB, ko_put hkA8 hyA, hB9⟩
  clear f0 f2 f4 f5 f6 f7 f8 f9 y3 hs8 hkA8 hB8'
  rintro f G ⟨f0, f2, f4, f5, f7, f8, f6, hs9, hkA9, hB9⟩
  obtain ⟨x, hx⟩ : ∃ x, x = (actR k.1 sti).1.1 := ⟨_, rfl⟩
  have hx' : x = ⟨kd.1, k.1, tx.1, if bl then -m else m⟩ := by rw [hx, hact]
  have hEl : ElAc [.int .u8 kd.1, .string k.1, .string tx.1, .int .i64 (if bl then -m else m)] x := by
   rw [hx']
   refine ⟨rfl, ⟨hb1.1, Int.le_trans hb1.2 (by omega)⟩, ?_, hkz.1, htz.1⟩
   cases bl
   ·exact ⟨by simp; omega, by simp; omega⟩
   ·exact ⟨by simp; omega, by simp; omega⟩
  obtain ⟨y0, y1, y2, y3⟩ := rdn4 hB9.rd
  simp only [Nat.zero_add] at y0 y1 y2 y3
  have hcl1 : ([.int .u8 kd.1, .string k.1, .string tx.1, .int .i64 (if bl then -m else m)] : List Value).length = 4 ∧ One [.int .u8 kd.1, .string k.1, .string tx.1, .int .i64 (if bl then -m else m)] := by
   refine ⟨rfl, fun v hv => ?_⟩
   simp at hv
   rcases hv with rfl | rfl | rfl | rfl <;> rfl
  obtain ⟨ua, uc, rfl⟩ := hA.form
  have hA9 := (hA.next hkA9 hp1).ext ((Ext.refl G).push (.cells #[.int .u8 kd.1, .string k.1, .string tx.1, .int .i64 (if bl then -m else m)] 98))
  have hs10 := hs9.ext ((Ext.refl G).push (.cells #[.int .u8 kd.1, .string k.1, .string tx.1, .int .i64 (if bl then -m else m)] 98))
  have hb3 := hs9.bk.cell 3 (by simp)
  simp only [List.getElem_cons_zero, List.getElem_cons_succ] at hb3
  generalize (if bl then -m else m) = nu at *
  refine w_reg1 fun K hK => ?_
  simp (disch := omega) only [↓wD, wU, simprocAttr, f4, f8, hb3, y0, y1, y2, y3, as_one]
  refine app_acm hA9 hcl1 hEl rfl (by decide) (by omega) hs10.keep.1 hs10.Bl ?_ rfl
  intro N a' c' H' hA' hkN hN
  have hs11 := hs10.on hkN hN
  simp (disch := omega) only [↓wD, wU, simprocAttr, f4, hs11.bk.cell 3 (by simp), hs11.bk.fz]
  refine hK _ _ ?_
  (with_reducible repeat first | apply q_n | apply q_e | apply q_r | apply bq_n | apply bq_e | apply bq_r | apply bq_o rfl)
  refine w_reg1 fun K hK => ?_; simp (disch := omega) only [↓wD, wU, simprocAttr, f7]; refine hK _ _ ?_; clear hK K
  (with_reducible repeat first | apply q_n | apply q_e | apply q_r | apply bq_n | apply bq_e | apply bq_r | apply bq_o rfl)
  have hs12 := hs11.put 3 (.slice a' (L.length + 1) c') (by simp)
  simp only [List.set_cons_succ, List.set_cons_zero] at hs12
  refine ⟨an - (i + 1), by omega, (by simp only [wL, Nat.reduceBEq, f0]), (by simp only [wL, Nat.reduceBEq, f2]), (by simp only [wL, Nat.reduceBEq, f4]), (by simp only [wL, Nat.reduceBEq, f5]), i + 1, L ++ [x], (ok && (!bl || decide (0 < m))), nm.2, .slice a' (L.length + 1) c', (by simp only [wL, Nat.reduceBEq]), by omega, rfl, (by simp only [wL, Nat.reduceBEq, f6]), hs12, hA'.put _ _, by simp [hLi], ?_⟩
  rw [← hD]
  have e1 : an - i = (an - (i + 1)) + 1 := by omega
  rw [e1, actsL, hact, hx, hact]
 ·refine w_reg fun K hK => ?_; simp (disch := omega) only [↓wD, wU, simprocAttr, f5, f7, hil]; refine hK _ _ ?_; clear hK K
  refine wf ?_
  refine w_exit ?_
  (with_reducible repeat first | apply q_n | apply q_e | apply q_r | apply bq_n | apply bq_e | apply bq_r | apply bq_o rfl)
  have e : an - i = 0 := by omega
  rw [e, actsL] at hD
  subst hD
  simp only at hr hb hw ⊢
  obtain ⟨rn, hrn⟩ : ∃ rn : Nat, (numR 6 sti).1 = rn := ⟨(numR 6 sti).1.toNat, by have := numR_bd 6 sti (by omega); omega⟩
  obtain ⟨hr0, hr6⟩ := numR_bd 6 sti (by omega)
  rw [hrn] at hr6
  have eR : r = readsL k.1 rn [] (numR 6 sti).2 := by rw [hr]; unfold readsR; rw [hrn, Int.toNat_natCast]
  obtain ⟨v5, hq5⟩ := hs.qr
  refine w_reg fun K hK => ?_
  simp (disch := omega) only [↓wD, wU, simprocAttr, f0]
  refine w_call (NumR2_cl (most := 6) hq5) ?_
  rintro _ A2 ⟨rfl, hP5⟩
  have hs5 := hs.next hP5.1 hP5.2
  have hA5 := (hA.next hP5.1 hp1).slp (by omega)
  simp (disch := omega) only [↓wD, wU, simprocAttr, hrn]
  refine hK _ _ ?_
  clear hK K
  have hBA2 := hs5.Bl
  have hsz2 := hs5.keep.1
  generalize hN0 : A2.size = N0 at hA5 hBA2 hsz2
  clear hs hA hP5 hq5 hr
  refine w_seq ?_
  refine w_reg fun K hK => ?_; simp (disch := omega) only [↓wD, wU, simprocAttr]; refine hK _ _ ?_; clear hK K
  refine w_blk (w_loop (fun n' f A => f 0 = .pointer (some ⟨p, 0, none⟩) ∧ f 2 = .pointer (some ⟨R, 0, none⟩) ∧ f 4 = .pointer (some ⟨B, 0, none⟩) ∧ f 5 = .int .i64 rn ∧ f 6 = .bool ok ∧ N0 ≤ A.size ∧ AcSl (fun x => H1.size ≤ x ∧ x < N0 ∧ x ≠ B) A u L ∧ ∃ (j : Nat) (L2 : List Rd) (stj : St) (u2 : Value), f 10 = .int .i64 j ∧ j ≤ rn ∧ n' = rn - j ∧ HS S H1 p B A stj [.string k.1, .int .i64 c.1, .int .i64 n.1, u, u2, .bool false, .string .empty] ∧ Acm ElRd 3 N0 B A u2 L2 ∧ L2.length = j ∧ readsL k.1 (rn - j) L2 stj = r) rn ⟨(by simp only [wL, Nat.reduceBEq, f0]), (by simp only [wL, Nat.reduceBEq, f2]), (by simp only [wL, Nat.reduceBEq, f4]), (by simp only [wL, Nat.reduceBEq]), (by simp only [wL, Nat.reduceBEq, f6]), Nat.le_of_eq hN0.symm, hA5, 0, [], _, _, (by simp only [wL, Nat.reduceBEq]; rfl), Nat.zero_le _, rfl, hs5, Acm.nil, rfl, by rw [Nat.sub_zero, eR]⟩ ?_)
  clear hs5 eR hA5 hN0 f0 f2 f4 f6 f5 f7 f A A2 hsz hrn hr0 v5
  rintro n' f A ⟨f0, f2, f4, f5, f6, hN0, hA, j, L2, stj, u2, f10, hj, rfl, hs, hA2, hLj, hD⟩
  refine w_seq (w_seq ?_)
  by_cases hjl : j < rn
  ·refine w_reg fun K hK => ?_; simp (disch := omega) only [↓wD, wU, simprocAttr, f5, f10, hjl]; refine hK _ _ ?_; clear hK K
   refine wt ?_
   refine w_skip ?_
   (with_reducible repeat first | apply q_n | apply q_e | apply q_r | apply bq_n | apply bq_e | apply bq_r | apply bq_o rfl)
   refine w_seq (w_blk ?_)
   obtain ⟨v6, hq6⟩ := hs.qr
   have hb0 := hs.bk.cell 0 (by simp)
   simp only [List.getElem_cons_zero] at hb0
   refine w_alc (fun x => x = B) (fun x => x = p) (fun x hx => hx ▸ cell_lt hq6.c0) fun K hK => ?_
   simp (disch := omega) only [↓a_nil, ↓a_st, ↓a_new, ↓a_box, ↓a_bsl, ↓a_ac, ↓a_ft, ↓a_ff, p_nil, p_new, p_box, p_bsl, ↓ow_s, ↓ow_e, ↓ow_g, ↓l_nil, ↓l_f, ↓l_t, ↓o_s, ↓o_e, ↓o_g, ↓o_ge, ↓k_ld, ↓k_ldn, isemS, ↓wD, wU, simprocAttr, f0, f4, hb0]
   refine w_ac fun G1 gE1 => ?_
   simp (disch := omega) only [↓a_nil, ↓a_st, ↓a_new, ↓a_box, ↓a_bsl, ↓a_ac, ↓a_ft, ↓a_ff, p_nil, p_new, p_box, p_bsl, ↓ow_s, ↓ow_e, ↓ow_g, ↓l_nil, ↓l_f, ↓l_t, ↓o_s, ↓o_e, ↓o_g, ↓o_ge, ↓k_ld, ↓k_ldn, isemS, ↓wD, wU, simprocAttr, f0]
   refine w_call (FlagR2_cl (hq6.ext gE1)) ?_
   rintro _ G2 ⟨rfl, gk2, gv2, gR2⟩
   simp (disch := omega) only [↓a_nil, ↓a_st, ↓a_new, ↓a_box, ↓a_bsl, ↓a_ac, ↓a_ft, ↓a_ff, p_nil, p_new, p_box, p_bsl, ↓ow_s, ↓ow_e, ↓ow_g, ↓l_nil, ↓l_f, ↓l_t, ↓o_s, ↓o_e, ↓o_g, ↓o_ge, ↓k_ld, ↓k_ldn, isemS, ↓wD, wU, simprocAttr]
   refine ⟨fun x => x = p, fun x hx => .inl hx, fun x hx => hx ▸ cell_lt gR2.c0, gk2.1, fun x hx hh => gk2.2 x hx (hh.elim (fun h => h.1) fun e => by omega), ?_⟩
   simp (disch := omega) only [↓a_nil, ↓a_st, ↓a_new, ↓a_box, ↓a_bsl, ↓a_ac, ↓a_ft, ↓a_ff, p_nil, p_new, p_box, p_bsl, ↓ow_s, ↓ow_e, ↓ow_g, ↓l_nil, ↓l_f, ↓l_t, ↓o_s, ↓o_e, ↓o_g, ↓o_ge, ↓k_ld, ↓k_ldn, isemS, ↓wD, wU, simprocAttr]
   refine w_al fun y G3 gE3 hny hby hFy hAy hcy => ?_
   have hBy := Bk.at (cs := [.string .empty, .bool false, .string .empty]) hcy
   obtain ⟨G4, gw, gW⟩ := wrn_ok (l := [.string k.1, .bool (flagR stj).1, .string .empty]) hBy.own (by intro v hv; simp at hv; rcases hv with rfl | rfl | rfl <;> rfl)
   simp (disch := omega) only [↓a_nil, ↓a_st, ↓a_new, ↓a_box, ↓a_bsl, ↓a_ac, ↓a_ft, ↓a_ff, p_nil, p_new, p_box, p_bsl, ↓ow_s, ↓ow_e, ↓ow_g, ↓l_nil, ↓l_f, ↓l_t, ↓o_s, ↓o_e, ↓o_g, ↓o_ge, ↓k_ld, ↓k_ldn, isemS, ↓wD, wU, simprocAttr, gw]
   refine hK _ _ ?_
   clear hK K
   have gs1 := gE1.1
   have gs2 := gk2.1
   have gs3 := gE3.1
   have hyp : y ≠ p := fun e => hFy e
   have hyA : A.size ≤ y := hny
   have hyB : y ≠ B := by have := hs.Bl; omega
   have hB4 : Bk G4 y [.string k.1, .bool (flagR stj).1, .string .empty] := ⟨gW.rdn_at, fun i => by rw [gW.frz]; exact hBy.fz i⟩
   have hkA4 : KeepOn (fun x => x ≠ p) A G4 := ⟨by rw [gW.size]; omega, fun x hx hxp => by rw [gW.other x (by omega), gE3.2 x (by omega), gk2.2 x (by omega) hxp, gE1.2 x hx]⟩
   have hq4 : Qr S G4 p (flagR stj).2 gv2 := (gR2.ext gE3).keep (by rw [gW.size]; exact Nat.le_refl _) fun x hx hsx => gW.other x (by
    rcases hsx with h | h
    ·have := hs.S0 x h; omega
    ·omega)
   have hs4 := hs.next hkA4 ⟨gv2, hq4⟩
   clear gE1 gk2 gR2 gE3 hBy gw gW hcy hFy hAy hny gs1 gs2 gs3
   obtain ⟨fl, hfl⟩ : ∃ fl, fl = flagR stj := ⟨_, rfl⟩
   obtain ⟨tx, htx⟩ : ∃ tx, tx = textR 20 fl.2 := ⟨_, rfl⟩
   have hrd : readR k.1 stj = (⟨k.1, fl.1, tx.1⟩, tx.2) := by rw [htx, hfl]; rfl
   rw [← hfl] at hs4 hB4 ⊢
   have hyl := hB4.lt (by simp)
   have hy1 : H1.size ≤ y := by omega
   have htz := textR_sz 20 fl.2 (by omega) (by omega)
   rw [← htx] at htz
   obtain ⟨v7, hq7⟩ := hs4.qr
   refine w_reg fun K hK => ?_
   simp (disch := omega) only [↓wD, wU, simprocAttr, f0]
   refine w_call (RowR2_cl (most := 20) hq7) ?_
   rintro _ G5 ⟨hP5, M5, hM5, hrow5⟩
   obtain ⟨a5, c5, rfl⟩ := hrow5.form
   have ek : (⟨(rowR 20 fl.2).1.toArray⟩ : ByteArray) = tx.1 := by rw [htx]; rfl
   have ek2 : (rowR 20 fl.2).2 = tx.2 := by rw [htx]; rfl
   rw [ek2] at hP5
   have hB5 := hB4.keep (hP5.1.2 y hyl hyp)
   simp (disch := omega) only [↓wD, wU, simprocAttr]
   refine w_cbs hrow5 ?_
   rw [ek]
   simp (disch := omega) only [↓wD, wU, simprocAttr, hB5.cell 2 (by simp), hB5.fz]
   refine hK _ _ ?_
   clear hK K
   have hs5 := (hs4.next hP5.1 hP5.2).puty (j := 2) (v := .string tx.1) hy1 hyB
   have hkA5 := ko_put (j := 2) (v := .string tx.1) (hkA4.trans hP5.1) hyA
   have hB5' := hB5.put 2 (.string tx.1) (by simp)
   simp only [List.set_cons_succ, List.set_cons_zero] at hB5'
   generalize putc G5 y 2 (.string tx.1) = G6 at hs5 hkA5 hB5' ⊢
   clear hs4 hkA4 hB4 hB5 hP5 hq7 hM5 hrow5 hyl
   have hEl : ElRd [.string k.1, .bool fl.1, .string tx.1] ⟨k.1, fl.1, tx.1⟩ := ⟨rfl, hkz.1, htz.1⟩
   obtain ⟨y0, y1, y2⟩ := rdn3 hB5'.rd
   simp only [Nat.zero_add] at y0 y1 y2
   have hcl1 : ([.string k.1, .bool fl.1, .string tx.1] : List Value).length = 3 ∧ One [.string k.1, .bool fl.1, .string tx.1] := by
    refine ⟨rfl, fun v hv => ?_⟩
    simp at hv
    rcases hv with rfl | rfl | rfl <;> rfl
   obtain ⟨ua, uc, rfl⟩ := hA2.form
   have hpN : p < N0 := by omega
   have hA9 := (hA2.next hkA5 hpN).ext ((Ext.refl G6).push (.cells #[.string k.1, .bool fl.1, .string tx.1] 100))
   have hs10 := hs5.ext ((Ext.refl G6).push (.cells #[.string k.1, .bool fl.1, .string tx.1] 100))
   have hAc9 : AcSl (fun x => H1.size ≤ x ∧ x < N0 ∧ x ≠ B) (G6.push (.cells #[.string k.1, .bool fl.1, .string tx.1] 100)) u L := hA.mono (fun _ h => h) (fun x hx hx' => by rw [((Ext.refl G6).push _).2 x (by have := hkA5.1; omega), hkA5.2 x hx' (by omega)]) fun _ _ _ h => h
   have hb4 := hs5.bk.cell 4 (by simp)
   simp only [List.getElem_cons_zero, List.getElem_cons_succ] at hb4
   have hNG : N0 ≤ (G6.push (.cells #[.string k.1, .bool fl.1, .string tx.1] 100)).size := by have := hkA5.1; simp; omega
   refine w_reg1 fun K hK => ?_
   simp (disch := omega) only [↓wD, wU, simprocAttr, f4, hb4, y0, y1, y2, as_one]
   refine app_acm hA9 hcl1 hEl rfl (by decide) (by omega) hNG hs10.Bl ?_ rfl
   intro N a' c' H' hA' hkN hN
   have hs11 := hs10.on hkN fun x hx => ⟨by have := (hN x hx).1; omega, (hN x hx).2⟩
   simp (disch := omega) only [↓wD, wU, simprocAttr, f4, hs11.bk.cell 4 (by simp), hs11.bk.fz]
   refine hK _ _ ?_
   (with_reducible repeat first | apply q_n | apply q_e | apply q_r | apply bq_n | apply bq_e | apply bq_r | apply bq_o rfl)
   refine w_reg1 fun K hK => ?_; simp (disch := omega) only [↓wD, wU, simprocAttr, f10]; refine hK _ _ ?_; clear hK K
   (with_reducible repeat first | apply q_n | apply q_e | apply q_r | apply bq_n | apply bq_e | apply bq_r | apply bq_o rfl)
   have hs12 := hs11.put 4 (.slice a' (L2.length + 1) c') (by simp)
   simp only [List.set_cons_succ, List.set_cons_zero] at hs12
   refine ⟨rn - (j + 1), by omega, (by simp only [wL, Nat.reduceBEq, f0]), (by simp only [wL, Nat.reduceBEq, f2]), (by simp only [wL, Nat.reduceBEq, f4]), (by simp only [wL, Nat.reduceBEq, f5]), (by simp only [wL, Nat.reduceBEq, f6]), ?_, ?_, j + 1, L2 ++ [⟨k.1, fl.1, tx.1⟩], tx.2, .slice a' (L2.length + 1) c', (by simp only [wL, Nat.reduceBEq]), by omega, rfl, hs12, hA'.put _ _, by simp [hLj], ?_⟩
   ·rw [putc_size]; exact Nat.le_trans hNG hkN.1
   ·exact hAc9.mono (fun _ h => h) (fun x hx hx' => by rw [putc_ne hx.2.2, hkN.2 x hx' fun hn => by have := (hN x hn).1; omega]) fun _ _ _ h => h
   ·rw [← hD]
    have e1 : rn - j = (rn - (j + 1)) + 1 := by omega
    rw [e1, readsL, hrd]
  ·refine w_reg fun K hK => ?_; simp (disch := omega) only [↓wD, wU, simprocAttr, f5, f10, hjl]; refine hK _ _ ?_; clear hK K
   refine wf ?_
   refine w_exit ?_
   (with_reducible repeat first | apply q_n | apply q_e | apply q_r | apply bq_n | apply bq_e | apply bq_r | apply bq_o rfl)
   have e : rn - j = 0 := by omega
   rw [e, readsL] at hD
   subst hD
   simp only at hb hw ⊢
   have hrr := hA2.slp (by omega)
   obtain ⟨v6, hq6⟩ := hs.qr
   refine w_reg fun K hK => ?_
   simp (disch := omega) only [↓wD, wU, simprocAttr, f0]
   refine w_call (FlagR2_cl hq6) ?_
   rintro _ G2 ⟨rfl, hP2⟩
   rw [← hb] at hP2 ⊢
   have hs2 := hs.next hP2.1 hP2.2
   simp (disch := omega) only [↓wD, wU, simprocAttr, f4, hs2.bk.cell 5 (by simp), hs2.bk.fz]
   refine hK _ _ ?_
   clear hK K
   have hs2' := hs2.put 5 (.bool b.1) (by simp)
   simp only [List.set_cons_succ, List.set_cons_zero] at hs2'
   have hkA2 : KeepOn (fun x => x ≠ p ∧ x ≠ B) A (putc G2 B 5 (.bool b.1)) := ⟨by rw [putc_size]; exact hP2.1.1, fun x hx hxp => by rw [putc_ne hxp.2]; exact hP2.1.2 x hx hxp.1⟩
   generalize putc G2 B 5 (.bool b.1) = G3 at hs2' hkA2 ⊢
   clear hs2 hP2 hq6 v6
   obtain ⟨v6, hq6⟩ := hs2'.qr
   have hwz := textR_sz 20 b.2 (by omega) (by omega)
   rw [← hw] at hwz
   refine w_reg fun K hK => ?_
   simp (disch := omega) only [↓wD, wU, simprocAttr, f0]
   refine w_call (RowR2_cl (most := 20) hq6) ?_
   rintro _ G5 ⟨hP5, M5, hM5, hrow5⟩
   obtain ⟨a5, c5, rfl⟩ := hrow5.form
   have ek : (⟨(rowR 20 b.2).1.toArray⟩ : ByteArray) = w.1 := by rw [hw]; rfl
   have ek2 : (rowR 20 b.2).2 = w.2 := by rw [hw]; rfl
   rw [ek2] at hP5
   have hs5 := hs2'.next hP5.1 hP5.2
   simp (disch := omega) only [↓wD, wU, simprocAttr]
   refine w_cbs hrow5 ?_
   rw [ek]
   simp (disch := omega) only [↓wD, wU, simprocAttr, f4, hs5.bk.cell 6 (by simp), hs5.bk.fz]
   refine hK _ _ ?_
   clear hK K
   have hs7 := hs5.put 6 (.string w.1) (by simp)
   simp only [List.set_cons_succ, List.set_cons_zero] at hs7
   have hkA7 : KeepOn (fun x => x ≠ p ∧ x ≠ B) A (putc G5 B 6 (.string w.1)) := ⟨by rw [putc_size]; exact Nat.le_trans hkA2.1 hP5.1.1, fun x hx hxp => by rw [putc_ne hxp.2, hP5.1.2 x (Nat.lt_of_lt_of_le hx hkA2.1) hxp.1]; exact hkA2.2 x hx hxp⟩
   generalize putc G5 B 6 (.string w.1) = G7 at hs7 hkA7 ⊢
   clear hs5 hP5 hq6 hM5 hrow5 hs2' hkA2 v6
   obtain ⟨cs, ecs⟩ : ∃ cs : List Value, cs = [.string k.1, .int .i64 c.1, .int .i64 n.1, u, u2, .bool b.1, .string w.1] := ⟨_, rfl⟩
   have hsA := hs.keep.1
   have hA7 : AcSl (fun x => (H1.size ≤ x ∧ x < A.size ∧ x ≠ B)) G7 u L := hA.mono (fun x hx => ⟨hx.1, by omega, hx.2.2⟩) (fun x hx hx' => hkA7.2 x hx' ⟨by omega, hx.2.2⟩) fun _ _ _ h => h
   have hrr7 : RdSl (fun x => (H1.size ≤ x ∧ x < A.size ∧ x ≠ B)) G7 u2 L2 := hrr.mono (fun x hx => ⟨by omega, hx.2.1, hx.2.2⟩) (fun x hx hx' => hkA7.2 x hx' ⟨by omega, hx.2.2⟩) fun _ _ _ h => h
   have hEl : ElHd (fun x => (H1.size ≤ x ∧ x < A.size ∧ x ≠ B)) G7 cs ⟨k.1, ⟨c.1, n.1⟩, L, L2, b.1, w.1⟩ :=
    ⟨u, u2, ecs, hA7, hrr7, ⟨⟨by simp only; omega, by simp only; omega⟩, ⟨by simp only; omega, by simp only; omega⟩⟩, hkz.1, hwz.1⟩
   rw [← ecs] at hs7
   have one := hEl.one
   have hl7 := hEl.len
   have hrd7 := hs7.bk.rd
   rw [hl7] at hrd7
   obtain ⟨v7, hq7⟩ := hs7.qr
   have hRB : R ≠ B := by omega
   have hRp : R ≠ p := by omega
   have hR7 := hBR.keep (hs7.keep.2 R (by omega) hRp)
   have hR7l := hR7.lt (by simp)
   have last : ∀ (G8 : Hp), Ext G7 G8 → ∃ G9, wrn G8 R 0 cs = some G9 ∧ Bk G9 R cs ∧ QrP S H p w.2 G9 ∧ (∀ x, (H1.size ≤ x ∧ x < A.size ∧ x ≠ B) → H.size ≤ x ∧ x < G9.size) ∧ ElHd (fun x => (H1.size ≤ x ∧ x < A.size ∧ x ≠ B)) G9 cs ⟨k.1, ⟨c.1, n.1⟩, L, L2, b.1, w.1⟩ ∧ KeepOn (fun x => x = B ∨ x = p) G8 G9 := by
    intro G8 hE8
    have hB8 := hR7.keep (hE8.2 R hR7l)
    obtain ⟨G9, hw9, hW9⟩ := wrn_ok (l := cs) (by rw [hl7]; exact hB8.own) one
    have hs9 := hW9.size
    have hs8 := hE8.1
    have hk1 := hs7.keep
    have hs78 := hs7.keep.1
    refine ⟨G9, hw9, ⟨hW9.rdn_at, fun i => by rw [hW9.frz]; exact hB8.fz i⟩, ⟨⟨by omega, fun x hx hxp => ?_⟩, v7, (hq7.ext hE8).keep (by omega) fun x hx hsx => hW9.other x ?_⟩, fun x hx => ?_, ?_, ⟨by omega, fun x hx hxx => hW9.other x (by omega)⟩⟩
    ·rw [hW9.other x (by omega), hE8.2 x (by omega), hk1.2 x (by omega) hxp]; exact hE1.2 x hx
    ·rcases hsx with h1 | h1
     ·have := h.lt x h1; omega
     ·omega
    ·have := hkA7.1; exact ⟨by omega, by omega⟩
    ·exact (hEl.ext hE8).mono (fun _ h => h) fun x hx _ => hW9.other x (by omega)
   have fin : ∀ (f : Fr) (G9 : Hp) (q : Bool), f 2 = .pointer (some ⟨R, 0, none⟩) → f 3 = .bool q → Bk G9 R cs → resV [.cn 2 7, .t 3] f G9 = some (.tuple #[.agg cs.toArray, .bool q]) := by
    intro f G9 q h2 h3 h9
    have := h9.rd
    rw [hl7] at this
    simp only [resV, rvsV, rvV, h2, h3, this, Option.map_some, oneOr]
   have c1 := hq7.c1
   cases ok with
   | false =>
    obtain ⟨G9, hw9, hB9, hP9, hM9, hE9, hk9⟩ := last G7 (Ext.refl _)
    refine w_lin (fun x => x = B ∨ x = p) fun K hK => ?_
    simp (disch := omega) only [↓l_nil, ↓l_f, ↓l_t, ↓o_s, ↓o_e, ↓o_g, ↓o_ge, ↓k_ld, ↓k_ldn, isemS, ↓wD, wU, simprocAttr, f0, f2, f4, f6, hrd7, hl7, hw9, true_or, or_true]
    refine ⟨(Ext.refl _).on _, hk9, ?_⟩
    refine hK _ _ ?_
    clear hK K
    refine w_ret ?_
    (with_reducible repeat first | apply q_n | apply q_e | apply q_r | apply bq_n | apply bq_e | apply bq_r | apply bq_o rfl)
    refine retG (fin _ G9 false (by simp only [wL, Nat.reduceBEq, f2]) (by simp only [wL, Nat.reduceBEq]) hB9) ?_
    simp only [Bool.false_and]
    exact ⟨hP9, cs, _, rfl, fun x hx => by have := hM9 x hx; omega, hE9⟩
   | true =>
    cases hnn : w.2.isNone with
    | true =>
     rw [hnn] at c1
     obtain ⟨G9, hw9, hB9, hP9, hM9, hE9, hk9⟩ := last G7 (Ext.refl _)
     refine w_lin (fun x => x = B ∨ x = p) fun K hK => ?_
     simp (disch := omega) only [↓l_nil, ↓l_f, ↓l_t, ↓o_s, ↓o_e, ↓o_g, ↓o_ge, ↓k_ld, ↓k_ldn, isemS, ↓wD, wU, simprocAttr, f0, f2, f4, f6, hrd7, hl7, hw9, c1, true_or, or_true]
     refine ⟨(Ext.refl _).on _, hk9, ?_⟩
     refine hK _ _ ?_
     clear hK K
     refine w_ret ?_
     (with_reducible repeat first | apply q_n | apply q_e | apply q_r | apply bq_n | apply bq_e | apply bq_r | apply bq_o rfl)
     refine retG (fin _ G9 false (by simp only [wL, Nat.reduceBEq, f2]) (by simp only [wL, Nat.reduceBEq]) hB9) ?_
     simp only [Bool.not_true, Bool.and_false]
     exact ⟨hP9, cs, _, rfl, fun x hx => by have := hM9 x hx; omega, hE9⟩
    | false =>
     rw [hnn] at c1
     refine w_lin (fun x => x = B ∨ x = p) fun K hK => ?_
     simp (disch := omega) only [↓l_nil, ↓l_f, ↓l_t, ↓o_s, ↓o_e, ↓o_g, ↓o_ge, ↓k_ld, ↓k_ldn, isemS, ↓wD, wU, simprocAttr, f0, f2, f4, f6, hrd7, hl7, c1, true_or, or_true]
     refine w_call (one16_cl hEl) ?_
     rintro _ G8 ⟨rfl, hE8⟩
     obtain ⟨G9, hw9, hB9, hP9, hM9, hE9, hk9⟩ := last G8 hE8
     simp (disch := omega) only [↓l_nil, ↓l_f, ↓l_t, ↓o_s, ↓o_e, ↓o_g, ↓o_ge, ↓k_ld, ↓k_ldn, isemS, ↓wD, wU, simprocAttr, f0, f2, f4, f6, hrd7, hl7, hw9, c1, true_or, or_true]
     refine ⟨hE8.on _, hk9, ?_⟩
     refine hK _ _ ?_
     clear hK K
     refine w_ret ?_
     (with_reducible repeat first | apply q_n | apply q_e | apply q_r | apply bq_n | apply bq_e | apply bq_r | apply bq_o rfl)
     refine retG (fin _ G9 _ (by simp only [wL, Nat.reduceBEq, f2]) (by simp only [wL, Nat.reduceBEq]; rfl) hB9) ?_
     simp only [Bool.not_false, Bool.and_true, Bool.true_and]
     exact ⟨hP9, cs, _, rfl, fun x hx => by have := hM9 x hx; omega, hE9⟩
end Go.WK
