/-
  HoldsBytes: for every list of holds and every bytes in memory the function returns true, does not panic and leaves what was there; its condition is the one of its row. Part 9 of 14.
-/
import Derived.Test.YtcafflmhjgnehaaGreatDoorHoldsBytesQ7
import Derived.Test.YtcafflmhjgnehaaGreatDoorHoldsBytesQ5
import Derived.Lib.Overlaps
import Derived.Test.YtcafflmhjgnehaaGreatDoorHoldsBytesQ3
set_option linter.unusedSimpArgs false
set_option linter.unusedVariables false
set_option linter.defProp false
set_option maxRecDepth 100000
/-
 Laying a hold where it belongs.
-/
namespace Go.WK
open Go Go.Proofs

theorem ov_none : (Tryz.prog.funcs[151]?.map fun f => (f.name == "runtime.NumGoroutine", f.body.isNone)) = some (false, true) := by kernel_rfl
theorem ov_next : (Tryz.prog.funcs[151]?.bind fun f => Extern.findNext f) = none := by kernel_rfl
theorem ov_find : (Tryz.prog.funcs[151]?.bind fun f => Extern.find f) = some (Extern.SlicesOverlaps.overlaps #[22, 22] #[4]) := by kernel_rfl
theorem ov_und : Tryz.prog.underlying 22 = some (.slice 35) := by kernel_rfl
theorem ov_sz : szOf Tryz.prog 35 = some 7 := by kernel_rfl
theorem frz_cells {H : Hp} {b i : Nat} (h : (cell H b i).isSome = true) : ∃ c t z, H[b]? = some (.cells c t z) ∧ c.size ≠ 0 := by
 unfold cell at h
 split at h
 ·rename_i c t z hc
  refine ⟨c, t, z, hc, fun e => ?_⟩
  have : c = #[] := Array.eq_empty_of_size_eq_zero e
  subst this
  simp at h
 ·simp at h
theorem overlaps_cl {H : Hp} {a b oa ob la ca lb cb : Nat} (hne : a ≠ b) (ha : (cell H a 0).isSome = true) (hb : (cell H b 0).isSome = true) (hfa : ∀ i, frz H a i = false) :
  Cl Tryz.prog 151 [.slice (some ⟨a, oa, none⟩) la ca, .slice (some ⟨b, ob, none⟩) lb cb] H fun r H' => r = .bool false ∧ H' = H := by
 refine .inr fun w hw => ?_
 subst hw
 have h1 := ov_none
 have h2 := ov_next
 have h3 := ov_find
 cases hf : Tryz.prog.funcs[151]? with
 | none => rw [hf] at h1; cases h1
 | some fn =>
  rw [hf] at h1 h2 h3
  simp only [Option.map_some, Option.bind_some, Option.some.injEq, Prod.mk.injEq] at h1 h2 h3
  obtain ⟨ca', ta, za, hca, hca0⟩ := frz_cells ha
  obtain ⟨cb', tb, zb, hcb, hcb0⟩ := frz_cells hb
  refine ⟨.bool false, w, ?_, Same.refl _, rfl, rfl⟩
  rw [run_callFunc_extern hf h1.1 h1.2 h2 h3]
  have := Lib.run_overlaps_apart (P := Tryz.prog) w 22 4 35 ov_und 7 (fun w => run_szOf ov_sz w) ⟨a, oa, none⟩ ⟨b, ob, none⟩ la ca lb cb hne ta tb ca'.size cb'.size
   (by simp [World.shape?, hca]) (by simp [World.shape?, hcb]) hcb0 (by rw [frozen?_eq]; exact hfa _) (by rw [frozen?_eq]; exact hfa _)
  rw [this]
  rfl

theorem cast1 : ((1 : Nat) : Int) = 1 := nrfl rfl
theorem cpyS_s {H : Hp} {κ : Value → Hp → Prop} {b o m : Nat} {l : List Value} : cpyS H κ (some ⟨b, o, none⟩) m l = onSome (wrn H b o l) fun H' => κ (.int .i64 m) H' := by
 simp [cpyS]
theorem insert_cl {M M2 : Nat → Prop} {H : Hp} {v u : Value} {css : List (List Value)} {cs : List Value} {i : Nat} (hv : Row M H 7 v css) (hu : Row M2 H 7 u [cs]) (hMM : ∀ x, M x → ¬ M2 x) (hM : ∀ x, M x → x < H.size) (hi : i ≤ css.length) (hL : css.length ≤ 1048575) :
  Cl Tryz.prog 107 [v, .int .i64 i, u] H fun r H' => Row (fun x => M x ∨ x = H.size) H' 7 r (css.take i ++ cs :: css.drop i) ∧ KeepOn (fun x => ¬ M x) H H' := by
 refine cl_of mixed c_slices_Insert_Hold (Nat.le_of_ble_eq_true rfl) ?_
 simp only [fwp, ir_slices_Insert_Hold, argF, Nat.reduceAdd]
 obtain ⟨hall2, ⟨_, h⟩ | ⟨b2, c2, rfl, hc2, hM2, hb2, ⟨hown2, hfz2⟩, hrd2⟩⟩ := hu
 ·cases h
 have hr2 := hrd2 0 (by simp)
 have hcs7 := (hall2 cs (by simp)).1
 have hcs1 := (hall2 cs (by simp)).2
 simp only [List.length_cons, List.length_nil, Nat.zero_add, Nat.zero_mul, List.getElem_cons_zero] at hr2 hc2 ⊢
 obtain ⟨a, c, rfl, hc, hsp⟩ : ∃ a c, v = .slice a css.length c ∧ css.length ≤ c ∧ ∀ q, Pl a q = True := by
  obtain ⟨_, ⟨rfl, rfl⟩ | ⟨b, c, rfl, hc, _⟩⟩ := hv
  ·exact ⟨none, 0, rfl, Nat.le_refl _, fun q => pl_none⟩
  ·exact ⟨_, c, rfl, hc, fun q => pl_some⟩
 have hbd1 : bounds3 css.length c (some (.int .i64 (i : Int))) none none = some (i, css.length, c) := b3_10 (by rw [bd_ok (by omega) (by omega)]; simp)
 refine w_reg fun K hK => ?_; simp (disch := omega) only [↓wD, wU, simprocAttr]; refine hK _ _ ?_; clear hK K
 refine w_reg fun K hK => ?_; simp (disch := omega) only [↓wD, wU, simprocAttr, hbd1, hsp]; refine hK _ _ ?_; clear hK K
 refine w_reg fun K hK => ?_; simp (disch := omega) only [↓wD, wU, simprocAttr]; refine hK _ _ ?_; clear hK K
 refine w_seq (w_seq ?_)
 have h10 : ((1 : Int) = 0) = False := by simp
 refine w_reg fun K hK => ?_; simp (disch := omega) only [↓wD, wU, simprocAttr, h10, cast1]; refine hK _ _ ?_; clear hK K
 refine wf ?_
 refine w_skip ?_
 (with_reducible repeat first | apply q_n | apply q_e | apply q_r | apply bq_n | apply bq_e | apply bq_r | apply bq_o rfl)
 refine w_reg fun K hK => ?_; simp (disch := omega) only [↓wD, wU, simprocAttr]; refine hK _ _ ?_; clear hK K
 refine w_seq (w_seq ?_)
 by_cases hin : i = css.length
 ·subst hin
  refine w_reg fun K hK => ?_; simp (disch := omega) only [↓wD, wU, simprocAttr]; refine hK _ _ ?_; clear hK K
  refine wt ?_
  refine w_reg fun K hK => ?_
  simp (disch := omega) only [↓wD, wU, simprocAttr, as_1, hr2]
  have hfl : cs = [cs].flatten := by simp
  rw [hfl, show (1 : Nat) = [cs].length from rfl]
  refine app_row (M := M) (css := css) (new := [cs]) (k := 7) (bytes := 104) (z := zHold) hv hM (fun c hc => ?_) rfl (by decide) (by simp; omega) ?_ rfl
  ·simp at hc; subst hc; exact ⟨hcs7, hcs1⟩
  ·intro v' H' hrow hkeep _
   simp (disch := omega) only [↓wD, wU, simprocAttr]
   refine hK _ _ ?_
   clear hK K
   refine w_ret ?_; (with_reducible repeat first | apply q_n | apply q_e | apply q_r | apply bq_n | apply bq_e | apply bq_r | apply bq_o rfl); refine ret1 (by (try simp only [wL, Nat.reduceBEq]); rfl) ?_
   refine ⟨?_, hkeep⟩
   rw [List.take_length, List.drop_length]
   exact hrow
 have hil : i < css.length := by omega
 have hinF : (i = css.length) = False := eq_false hin
 refine w_reg fun K hK => ?_; simp (disch := omega) only [↓wD, wU, simprocAttr, hinF]; refine hK _ _ ?_; clear hK K
 refine wf ?_
 refine w_skip ?_
 (with_reducible repeat first | apply q_n | apply q_e | apply q_r | apply bq_n | apply bq_e | apply bq_r | apply bq_o rfl)
 obtain ⟨hall, ⟨_, rfl⟩ | ⟨b, c', e, _, hMb, hbs, ⟨hown, hfz⟩, hrd⟩⟩ := hv
 ·simp at hil
 cases e
 have hall' : ∀ x ∈ css.take i ++ cs :: css.drop i, x.length = 7 ∧ One x := by
  intro x hx
  rcases List.mem_append.1 hx with hx | hx
  ·exact hall x (List.mem_of_mem_take hx)
  ·rcases List.mem_cons.1 hx with rfl | hx
   ·exact ⟨hcs7, hcs1⟩
   ·exact hall x (List.mem_of_mem_drop hx)
 have hrdA : ∀ {m n : Nat}, m + n ≤ css.length → rdn H b (m * 7) (n * 7) = some ((css.drop m).take n).flatten := by
  intro m n hmn
  have hl : ((css.drop m).take n).length = n := by simp; omega
  conv => lhs; rw [← hl]
  refine rdn_flat fun j hj => ?_
  rw [List.getElem_take, List.getElem_drop, ← Nat.add_mul]
  exact hrd (m + j) (by omega)
 have hflL : ∀ {m n : Nat}, ((css.drop m).take n).flatten.length = ((css.drop m).take n).length * 7 := fun {m n} => flat_len fun x hx => (hall x (List.mem_of_mem_drop (List.mem_of_mem_take hx))).1
 have hflO : ∀ {m n : Nat}, One ((css.drop m).take n).flatten := fun {m n} => flat_one fun x hx => (hall x (List.mem_of_mem_drop (List.mem_of_mem_take hx))).2
 have hc0 : (c = 0) = False := by simp; omega
 have hci : (c = i) = False := by simp; omega
 refine w_seq (w_seq ?_)
 by_cases hgrow : c < css.length + 1
 ·have hbd2 : bounds3 css.length c none (some (.int .i64 (i : Int))) none = some (0, i, c) := b3_01 (by rw [bd_ok (by omega) (by omega)]; simp)
  have hsub : ((css.length + 1 : Nat) : Int) - (i : Int) = ((css.length + 1 - i : Nat) : Int) := by omega
  refine w_reg fun K hK => ?_; simp (disch := omega) only [↓wD, wU, simprocAttr, cast1, hgrow]; refine hK _ _ ?_; clear hK K
  refine wt ?_
  refine w_reg fun K hK => ?_
  simp (disch := omega) only [↓wD, wU, simprocAttr, hbd2, hsp, hc0, cast1, hsub, Nat.sub_zero, Nat.zero_mul]
  rw [i_apz]
  simp only [wL, Nat.reduceBEq, m_slice, m_int, Int.toNat_natCast]
  refine ⟨⟨by omega, by omega, by omega⟩, ?_⟩
  unfold appS
  rw [if_neg (by omega)]
  refine ⟨Nat.le_trans (growslice_fits (by omega) (by omega)) (by decide), by decide, rfl, ?_⟩
  have hold := hrdA (m := 0) (n := i) (by omega)
  rw [Nat.zero_mul, List.drop_zero] at hold
  rw [hold]
  intro c3 hc3
  have hlen0 : ((css.take i).flatten ++ zerosL zHold (css.length + 1 - i) ++ zerosL zHold (c3 - (i + (css.length + 1 - i)))).length = c3 * 7 := by
   have h1 := flat_len (k := 7) (css := css.take i) fun x hx => (hall x (List.mem_of_mem_take hx)).1
   simp only [List.length_append, h1, zerosL_len, List.length_take, List.length_cons, List.length_nil]
   omega
  have hOwn : Own (H.push (.cells ((css.take i).flatten ++ zerosL zHold (css.length + 1 - i) ++ zerosL zHold (c3 - (i + (css.length + 1 - i)))).toArray 35)) H.size 0 (c3 * 7) := by
   have := Own_new H ((css.take i).flatten ++ zerosL zHold (css.length + 1 - i) ++ zerosL zHold (c3 - (i + (css.length + 1 - i)))) 35
   rwa [hlen0] at this
  have hfz0 : ∀ j, frz (H.push (.cells ((css.take i).flatten ++ zerosL zHold (css.length + 1 - i) ++ zerosL zHold (c3 - (i + (css.length + 1 - i)))).toArray 35)) H.size j = false := fun j => frz_new _ _ _ _
  have hpre : ∀ k (hk : k < i), rdn (H.push (.cells ((css.take i).flatten ++ zerosL zHold (css.length + 1 - i) ++ zerosL zHold (c3 - (i + (css.length + 1 - i)))).toArray 35)) H.size (k * 7) 7 = some css[k] := by
   intro k hk
   refine rdn_of (hall _ (List.getElem_mem _)).1 fun j hj => ?_
   rw [cell_new]
   have h1 := flat_len (k := 7) (css := css.take i) fun x hx => (hall x (List.mem_of_mem_take hx)).1
   have hkl : k < (css.take i).length := by rw [List.length_take]; omega
   have hkj := mul_lt_of hkl hj
   rw [List.append_assoc, List.getElem?_append_left (by rw [h1]; exact hkj)]
   have := flat_get (k := 7) (css := css.take i) (fun x hx => (hall x (List.mem_of_mem_take hx)).1) k hkl j hj
   rw [this, List.getElem_take]
  have hE1 : Ext H (H.push (.cells ((css.take i).flatten ++ zerosL zHold (css.length + 1 - i) ++ zerosL zHold (c3 - (i + (css.length + 1 - i)))).toArray 35)) := (Ext.refl _).push _
  have hs1 : H.size < (H.push (.cells ((css.take i).flatten ++ zerosL zHold (css.length + 1 - i) ++ zerosL zHold (c3 - (i + (css.length + 1 - i)))).toArray 35)).size := by simp
  generalize H.push (.cells ((css.take i).flatten ++ zerosL zHold (css.length + 1 - i) ++ zerosL zHold (c3 - (i + (css.length + 1 - i)))).toArray 35) = H1 at *
  rw [show i + (css.length + 1 - i) = css.length + 1 by omega] at hc3 ⊢
  refine hK _ _ ?_
  clear hK K
  have hbd3 : bounds3 (css.length + 1) c3 (some (.int .i64 (i : Int))) none none = some (i, css.length + 1, c3) := b3_10 (by rw [bd_ok (by omega) (by omega)]; simp)
  have hc3i : (c3 = i) = False := by simp; omega
  have hc3j : (c3 = i + 1) = False := by simp; omega
  have hsrc1 : cpySrc H1 7 (css.length + 1 - i) (.slice (some ⟨b2, 0, none⟩) 1 c2) = some (1, cs) := by
   simp only [cpySrc, if_true, Nat.min_eq_left (show 1 ≤ css.length + 1 - i by omega), Nat.one_mul, rdn_ext hE1 hr2, Option.map_some]
  obtain ⟨H2, hw1, hW1⟩ := wrn_ok (H := H1) (b := H.size) (o := i * 7) (l := cs) (hOwn.sub (Nat.zero_le _) (by rw [hcs7]; omega)) hcs1
  refine w_reg fun K hK => ?_
  simp (disch := omega) only [↓wD, wU, simprocAttr, hbd3, hc3i, ↓i_cpy, hsrc1, cpyS_s, hw1]
  refine hK _ _ ?_
  clear hK K
  have hE2 := hW1.ext hE1 (Nat.le_refl _)
  have hsrc2 : cpySrc H2 7 (css.length + 1 - (i + 1)) (.slice (some ⟨b, i * 7, none⟩) (css.length - i) (c - i)) = some (css.length - i, (css.drop i).flatten) := by
   have := rdn_ext hE2 (hrdA (m := i) (n := css.length - i) (by omega))
   rw [List.take_of_length_le (by simp)] at this
   simp only [cpySrc, if_true]
   rw [show min (css.length - i) (css.length + 1 - (i + 1)) = css.length - i by omega, this]
   rfl
  have hdl : (css.drop i).flatten.length = (css.length - i) * 7 := by
   have := flat_len (k := 7) (css := css.drop i) fun x hx => (hall x (List.mem_of_mem_drop hx)).1
   rw [this, List.length_drop]
  obtain ⟨H3, hw2, hW2⟩ := wrn_ok (H := H2) (b := H.size) (o := (i + 1) * 7) (l := (css.drop i).flatten) ((hW1.own hOwn).sub (Nat.zero_le _) (by rw [hdl]; omega)) (flat_one fun x hx => (hall x (List.mem_of_mem_drop hx)).2)
  have hbd4 : bounds3 (css.length + 1) c3 (some (.int .i64 ((i + 1 : Nat) : Int))) none none = some (i + 1, css.length + 1, c3) := b3_10 (by rw [bd_ok (by omega) (by omega)]; simp)
  refine w_reg fun K hK => ?_
  rw [Nat.add_sub_add_right] at hsrc2
  simp (disch := omega) only [↓wD, wU, simprocAttr, hbd1, hbd4, hci, hc3j, cast1, ↓i_cpy, hsrc2, cpyS_s, hw2]
  refine hK _ _ ?_
  clear hK K
  refine w_reg fun K hK => ?_; simp (disch := omega) only [↓wD, wU, simprocAttr]; refine hK _ _ ?_; clear hK K
  refine w_ret ?_; (with_reducible repeat first | apply q_n | apply q_e | apply q_r | apply bq_n | apply bq_e | apply bq_r | apply bq_o rfl); refine ret1 (by (try simp only [wL, Nat.reduceBEq]); rfl) ?_
  have hE3 := hW2.ext hE2 (Nat.le_refl _)
  refine ⟨⟨hall', .inr ⟨H.size, c3, by simp; omega, by simp; omega, .inr rfl, by rw [hW2.size, hW1.size]; exact hs1, ⟨hW2.own (hW1.own hOwn), fun j => by rw [hW2.frz, hW1.frz]; exact hfz0 j⟩, fun k hk => ?_⟩⟩, hE3.on _⟩
  have hk' : k < css.length + 1 := by simp at hk; omega
  by_cases h1 : k < i
  ·rw [List.getElem_append_left (by rw [List.length_take]; omega), List.getElem_take]
   exact hW2.rdn_off (.inl (by omega)) (hW1.rdn_off (.inl (by omega)) (hpre k h1))
  ·rw [List.getElem_append_right (by rw [List.length_take]; omega)]
   by_cases h2 : k = i
   ·subst h2
    have e : (cs :: css.drop k)[k - (css.take k).length]'(by simp; omega) = cs := by
     have : k - (css.take k).length = 0 := by rw [List.length_take]; omega
     simp only [this, List.getElem_cons_zero]
    rw [e]
    have := hW1.rdn_at
    rw [hcs7] at this
    exact hW2.rdn_off (.inl (by omega)) this
   ·have hkl : k - 1 < css.length := by omega
    have e : (cs :: css.drop i)[k - (css.take i).length]'(by simp; omega) = css[k - 1] := by
     have : k - (css.take i).length = (k - 1 - i) + 1 := by rw [List.length_take]; omega
     simp only [this, List.getElem_cons_succ, List.getElem_drop]
     congr 1; omega
    rw [e]
    refine rdn_of (hall _ (List.getElem_mem hkl)).1 fun j hj => ?_
    rw [hW2.cell, if_pos (by rw [hdl]; omega)]
    have := flat_get (k := 7) (css := css.drop i) (fun x hx => (hall x (List.mem_of_mem_drop hx)).1) (k - 1 - i) (by rw [List.length_drop]; omega) j hj
    rw [List.getElem_drop] at this
    rw [show k * 7 + j - (i + 1) * 7 = (k - 1 - i) * 7 + j by omega, this]
    congr 2; omega
 ·have hcap : css.length + 1 ≤ c := by omega
  have hbd2 : bounds3 css.length c none (some (.int .i64 ((css.length + 1 : Nat) : Int))) none = some (0, css.length + 1, c) := b3_01 (by rw [bd_ok (by omega) (by omega)]; simp)
  have hbd3 : bounds3 (css.length + 1) c (some (.int .i64 ((i + 1 : Nat) : Int))) none none = some (i + 1, css.length + 1, c) := b3_10 (by rw [bd_ok (by omega) (by omega)]; simp)
  have hbd4 : bounds3 (css.length + 1) c (some (.int .i64 (i : Int))) none none = some (i, css.length + 1, c) := b3_10 (by rw [bd_ok (by omega) (by omega)]; simp)
  have hcj : (c = i + 1) = False := by simp; omega
  have hne : b2 ≠ b := fun e => hMM b hMb (e ▸ hM2)
  refine w_reg fun K hK => ?_; simp (disch := omega) only [↓wD, wU, simprocAttr, cast1, hgrow]; refine hK _ _ ?_; clear hK K
  refine wf ?_
  refine w_skip ?_
  (with_reducible repeat first | apply q_n | apply q_e | apply q_r | apply bq_n | apply bq_e | apply bq_r | apply bq_o rfl)
  refine w_reg fun K hK => ?_; simp (disch := omega) only [↓wD, wU, simprocAttr, cast1, hbd2, hc0, Nat.sub_zero, Nat.zero_mul]; refine hK _ _ ?_; clear hK K
  refine w_seq (w_seq ?_)
  refine w_reg fun K hK => ?_
  simp (disch := omega) only [↓wD, wU, simprocAttr, cast1, hbd3, hcj, Nat.sub_zero]
  refine w_call (overlaps_cl hne (hown2 0 (by omega)).1 (hown 0 (by omega)).1 hfz2) ?_
  rintro _ H9 ⟨rfl, e9⟩
  subst e9
  simp (disch := omega) only [↓wD, wU, simprocAttr]
  refine hK _ _ ?_
  clear hK K
  refine wt ?_
  have hsrc1 : cpySrc H9 7 (css.length + 1 - (i + 1)) (.slice (some ⟨b, i * 7, none⟩) (css.length + 1 - i) (c - i)) = some (css.length - i, (css.drop i).flatten) := by
   have := hrdA (m := i) (n := css.length - i) (by omega)
   rw [List.take_of_length_le (by simp)] at this
   simp only [cpySrc, if_true]
   rw [show min (css.length + 1 - i) (css.length + 1 - (i + 1)) = css.length - i by omega, this]
   rfl
  have hdl : (css.drop i).flatten.length = (css.length - i) * 7 := by
   have := flat_len (k := 7) (css := css.drop i) fun x hx => (hall x (List.mem_of_mem_drop hx)).1
   rw [this, List.length_drop]
  obtain ⟨H1, hw1, hW1⟩ := wrn_ok (H := H9) (b := b) (o := (i + 1) * 7) (l := (css.drop i).flatten) (hown.sub (Nat.zero_le _) (by rw [hdl]; omega)) (flat_one fun x hx => (hall x (List.mem_of_mem_drop hx)).2)
  refine w_reg fun K hK => ?_
  rw [Nat.add_sub_add_right] at hsrc1
  simp (disch := omega) only [↓wD, wU, simprocAttr, cast1, hbd3, hbd4, hci, hcj, Nat.sub_zero, ↓i_cpy, hsrc1, cpyS_s, hw1]
  refine hK _ _ ?_
  clear hK K
  have hr2' : rdn H1 b2 0 7 = some cs := rdn_block (hW1.other b2 hne) hr2
  have hsrc2 : cpySrc H1 7 (css.length + 1 - i) (.slice (some ⟨b2, 0, none⟩) 1 c2) = some (1, cs) := by
   simp only [cpySrc, if_true, Nat.min_eq_left (show 1 ≤ css.length + 1 - i by omega), Nat.one_mul, hr2', Option.map_some]
  obtain ⟨H2, hw2, hW2⟩ := wrn_ok (H := H1) (b := b) (o := i * 7) (l := cs) ((hW1.own hown).sub (Nat.zero_le _) (by rw [hcs7]; omega)) hcs1
  refine w_reg fun K hK => ?_
  simp (disch := omega) only [↓wD, wU, simprocAttr, cast1, hbd4, hci, Nat.sub_zero, ↓i_cpy, hsrc2, cpyS_s, hw2]
  refine hK _ _ ?_
  clear hK K
  refine w_reg fun K hK => ?_; simp (disch := omega) only [↓wD, wU, simprocAttr]; refine hK _ _ ?_; clear hK K
  refine w_ret ?_; (with_reducible repeat first | apply q_n | apply q_e | apply q_r | apply bq_n | apply bq_e | apply bq_r | apply bq_o rfl); refine ret1 (by (try simp only [wL, Nat.reduceBEq]); rfl) ?_
  refine ⟨⟨hall', .inr ⟨b, c, by simp; omega, by simp; omega, .inl hMb, by rw [hW2.size, hW1.size]; exact hbs, ⟨hW2.own (hW1.own hown), fun j => by rw [hW2.frz, hW1.frz]; exact hfz j⟩, fun k hk => ?_⟩⟩, (hW1.keep fun hn => hn hMb).trans (hW2.keep fun hn => hn hMb)⟩
  have hk' : k < css.length + 1 := by simp at hk; omega
  by_cases h1 : k < i
  ·rw [List.getElem_append_left (by rw [List.length_take]; omega), List.getElem_take]
   exact hW2.rdn_off (.inl (by omega)) (hW1.rdn_off (.inl (by omega)) (hrd k (by omega)))
  ·rw [List.getElem_append_right (by rw [List.length_take]; omega)]
   by_cases h2 : k = i
   ·subst h2
    have e : (cs :: css.drop k)[k - (css.take k).length]'(by simp; omega) = cs := by
     have : k - (css.take k).length = 0 := by rw [List.length_take]; omega
     simp only [this, List.getElem_cons_zero]
    rw [e]
    have := hW2.rdn_at
    rwa [hcs7] at this
   ·have hkl : k - 1 < css.length := by omega
    have e : (cs :: css.drop i)[k - (css.take i).length]'(by simp; omega) = css[k - 1] := by
     have : k - (css.take i).length = (k - 1 - i) + 1 := by rw [List.length_take]; omega
     simp only [this, List.getElem_cons_succ, List.getElem_drop]
     congr 1; omega
    rw [e]
    refine hW2.rdn_off (.inr (by rw [hcs7]; omega)) ?_
    refine rdn_of (hall _ (List.getElem_mem hkl)).1 fun j hj => ?_
    rw [hW1.cell, if_pos (by rw [hdl]; omega)]
    have := flat_get (k := 7) (css := css.drop i) (fun x hx => (hall x (List.mem_of_mem_drop hx)).1) (k - 1 - i) (by rw [List.length_drop]; omega) j hj
    rw [List.getElem_drop] at this
    rw [show k * 7 + j - (i + 1) * 7 = (k - 1 - i) * 7 + j by omega, this]
    congr 2; omega
end Go.WK
/-
 Laying a hold where it belongs: the table's row.
-/
namespace Go.WK
open Go Go.Proofs

theorem ElHd.sl1 {S : Nat → Prop} {H : Hp} {cs : List Value} {h : Hd} (he : ElHd S H cs h) (t : Nat) : HdSl (fun x => S x ∨ x = H.size) (H.push (.cells cs.toArray t)) (.slice (some ⟨H.size, 0, none⟩) 1 1) [h] := by
 have hl := he.len
 refine ⟨(by decide : (1 : Nat) ≤ big), .inr ⟨H.size, 0, 1, rfl, Nat.le_refl _, fun i hi => ?_⟩⟩
 have hi0 : i = 0 := by simp at hi; omega
 subst hi0
 refine ⟨.inr rfl, cs, ?_, ?_⟩
 ·rw [rdn_new H cs t 0 7 (by omega), List.drop_zero, List.take_of_length_le (by omega)]
 ·exact (he.ext ((Ext.refl H).push _)).mono (fun b hb => .inl hb) fun _ _ _ => rfl
theorem take_map_get {α : Type} (l : List α) (m : Nat) (x : α) (k : Nat) (hm : m ≤ l.length) (hk : k < (l.take m ++ x :: l.drop m).length) :
  (l.take m ++ x :: l.drop m)[k] = if h : k < m then l[k]'(by simp at hk; omega) else if h2 : k = m then x else l[k - 1]'(by simp at hk; omega) := by
 by_cases h1 : k < m
 ·rw [dif_pos h1, List.getElem_append_left (by rw [List.length_take]; omega), List.getElem_take]
 ·rw [dif_neg h1, List.getElem_append_right (by rw [List.length_take]; omega)]
  by_cases h2 : k = m
  ·rw [dif_pos h2]
   have : k - (l.take m).length = 0 := by rw [List.length_take]; omega
   simp only [this, List.getElem_cons_zero]
  ·rw [dif_neg h2]
   have : k - (l.take m).length = (k - 1 - m) + 1 := by rw [List.length_take]; omega
   simp only [this, List.getElem_cons_succ, List.getElem_drop]
   congr 1; omega

/-- What a table becomes: its blocks are old ones of it, or new. -/
def Grown (M G M' G' : Nat → Prop) (n : Nat) : Prop := (∀ x, M' x → M x ∨ n ≤ x) ∧ ∀ x, G' x → G x ∨ n ≤ x
theorem Grown.refl {M G : Nat → Prop} {n : Nat} : Grown M G M G n := ⟨fun _ h => .inl h, fun _ h => .inl h⟩
theorem Grown.trans {M G M' G' M'' G'' : Nat → Prop} {n m : Nat} (h : Grown M G M' G' n) (k : Grown M' G' M'' G'' m) (hnm : n ≤ m) : Grown M G M'' G'' n :=
 ⟨fun x hx => (k.1 x hx).elim (h.1 x) fun e => .inr (Nat.le_trans hnm e), fun x hx => (k.2 x hx).elim (h.2 x) fun e => .inr (Nat.le_trans hnm e)⟩

theorem lay_cl {M G S : Nat → Prop} {H : Hp} {p : Nat} {L : List Hd} {v : Value} {cs : List Value} {h : Hd} (hT : Tab M G H p L v) (hs : Sorted L) (hL : L.length ≤ 1048575) (he : ElHd S H cs h) (ha : h.acts.length ≤ 1048576) (hr : h.reads.length ≤ 1048576) :
  Cl Tryz.prog 52 [.pointer (some ⟨p, 0, none⟩), .agg cs.toArray] H fun r H' => r = .tuple #[] ∧ KeepOn (fun x => ¬ M x ∧ x ≠ p) H H' ∧ ∃ m M' G' v', Place L h.key m ∧ Tab M' G' H' p (L.take m ++ h :: L.drop m) v' ∧ Grown M G M' G' H.size := by
 refine cl_of mixed c_holds_row_lay (Nat.le_of_ble_eq_true rfl) ?_
 simp only [fwp, ir_holds_row_lay, argF, Nat.reduceAdd]
 have hl7 := he.len
 have he' := he
 obtain ⟨va, vr, ecs, -⟩ := he'
 have hp := cell_lt hT.c0
 refine w_reg fun K hK => ?_; simp (disch := omega) only [↓wD, wU, simprocAttr]; refine hK _ _ ?_; clear hK K
 generalize hH0 : H.push (.cells cs.toArray 35) = H0
 have hE0 : Ext H H0 := by subst hH0; exact (Ext.refl _).push _
 have hr0 : rdn H0 H.size 0 7 = some cs := by
  subst hH0
  rw [rdn_new H cs 35 0 7 (by omega), List.drop_zero, List.take_of_length_le (by omega)]
 have hb0 : H.size < H0.size := by subst hH0; simp
 clear hH0
 have hk0 : cell H0 H.size 0 = some (.string h.key) := by rw [ecs] at hr0; exact (rdn7 hr0).1
 have hT0 : Tab M G H0 p L v := ⟨(hE0.cell p 0 hp).trans hT.c0, (hE0.cell p 1 hp).trans hT.c1, by rw [frz_block (hE0.2 p hp)]; exact hT.fz, hT.row.mono (fun _ h => h) (fun _ h => h) hE0.size fun b _ hb => hE0.2 b hb, hT.pM, hT.pG, hT.dis, fun x hx => Nat.lt_of_lt_of_le (hT.lt x hx) hE0.size⟩
 refine w_reg fun K hK => ?_
 simp (disch := omega) only [↓wD, wU, simprocAttr, hk0]
 refine w_call (at_cl h.key hT0 hs (by unfold big; omega)) ?_
 rintro _ H1 ⟨hE1, m, hP, rfl⟩
 simp (disch := omega) only [↓wD, wU, simprocAttr]
 refine hK _ _ ?_
 clear hK K
 have c1 := (hE1.cell p 0 (Nat.lt_of_lt_of_le hp hE0.size)).trans hT0.c0
 have hr1 := rdn_ext hE1 hr0
 have hb1 : H.size < H1.size := Nat.lt_of_lt_of_le hb0 hE1.size
 have hE01 := hE0.trans hE1
 refine w_lin1 (fun x => x = p ∨ x = H.size) fun K hK => ?_
 rw [ecs] at hr1
 simp (disch := omega) only [↓l_nil, ↓l_f, ↓l_t, ↓o_s, ↓o_e, ↓o_g, ↓o_ge, ↓k_ld, ↓k_ldn, isemS, ↓wD, wU, simprocAttr, c1, hr1, or_true, true_or]
 rw [← ecs] at hr1 ⊢
 have he1 : ElHd S H1 cs h := he.ext (hE0.trans hE1)
 have hE2 : Ext H1 (H1.push (.cells cs.toArray 35)) := (Ext.refl _).push _
 refine ⟨hE2.on _, ?_⟩
 refine w_call (own_cl (he1.sl1 35) ⟨by simp, fun x hx => by simp at hx; subst hx; exact ⟨ha, hr⟩⟩) ?_
 rintro _ H2 ⟨hE3, M2, G2, hd2, hlt2, hrow2⟩
 rename_i u
 simp (disch := omega) only [↓l_nil, ↓l_f, ↓l_t, ↓o_s, ↓o_e, ↓o_g, ↓o_ge, ↓k_ld, ↓k_ldn, isemS, ↓wD, wU, simprocAttr]
 refine ⟨hE3.on _, ?_⟩
 have hE13 := hE2.trans hE3
 have hE03 := hE01.trans hE13
 obtain ⟨css2, hr2, hl2, hel2⟩ := hrow2
 obtain ⟨cs2, rfl⟩ : ∃ c, css2 = [c] := by
  cases css2 with
  | nil => simp at hl2
  | cons c l => cases l with
   | nil => exact ⟨c, rfl⟩
   | cons d l => simp at hl2
 have he2 := hel2 0 (by simp) (by simp)
 simp only [List.getElem_cons_zero] at he2
 obtain ⟨css, hrow, hlen, hel⟩ := hT.row
 have hsz1 : (H1.push (.cells cs.toArray 35)).size = H1.size + 1 := by simp
 rw [hsz1] at hlt2
 have hrowB : Row M H2 7 v css := hrow.mono (fun _ h => h) hE03.size fun b _ hb => hE03.2 b hb
 have hMlt : ∀ x, M x → x < H.size := fun x hx => hT.lt x (.inl hx)
 refine w_call (insert_cl (i := m) hrowB hr2 (fun x hx hx2 => by have := hMlt x hx; have := (hlt2 x (.inl hx2)).1; omega) (fun x hx => Nat.lt_of_lt_of_le (hMlt x hx) hE03.size) (by rw [hlen]; exact hP.le) (by omega)) ?_
 rintro _ H3 ⟨hrow3, hk3⟩
 rename_i r3
 obtain ⟨ra, rn, rc, er3⟩ : ∃ a n c, r3 = .slice a n c := by
  obtain ⟨_, ⟨e, _⟩ | ⟨b, c, e, _⟩⟩ := hrow3
  ·exact ⟨_, _, _, e⟩
  ·exact ⟨_, _, _, e⟩
 have hp3 := hk3.2 p (Nat.lt_of_lt_of_le hp hE03.size) hT.pM
 have d0 : cell H3 p 0 = some v := (cell_block hp3 0).trans ((hE03.cell p 0 hp).trans hT.c0)
 have d1 : cell H3 p 1 = some (.bool true) := (cell_block hp3 1).trans ((hE03.cell p 1 hp).trans hT.c1)
 have dz : frz H3 p 0 = false := by rw [frz_block hp3, frz_block (hE03.2 p hp)]; exact hT.fz
 rw [er3]
 simp (disch := omega) only [↓l_nil, ↓l_f, ↓l_t, ↓o_s, ↓o_e, ↓o_g, ↓o_ge, ↓k_ld, ↓k_ldn, isemS, ↓wD, wU, simprocAttr, d0, dz]
 rw [← er3]
 refine ⟨⟨hk3.1, fun b hb hx => hk3.2 b hb (fun hm => ?_)⟩, ?_⟩
 ·rcases hx with rfl | rfl
  ·exact hT.pM hm
  ·have := hMlt _ hm; omega
 refine hK _ _ ?_
 clear hK K
 refine retN rfl ⟨rfl, ?_⟩
 have hp2 : p < H3.size := Nat.lt_of_lt_of_le (Nat.lt_of_lt_of_le hp hE03.size) hk3.1
 have hW : KeepOn (fun x => x ≠ p) H3 (putc H3 p 0 r3) := ⟨by rw [putc_size]; exact Nat.le_refl _, fun b _ hb => putc_ne hb⟩
 have hs2 : H1.size + 1 ≤ H2.size := by have := hE3.size; omega
 refine ⟨⟨Nat.le_trans hE03.size (Nat.le_trans hk3.1 hW.1), fun b hb hx => ?_⟩, m, (fun x => (M x ∨ x = H2.size) ∧ x < H3.size), (fun x => G x ∨ G2 x), r3, hP, ⟨?_, ?_, ?_, ?_, ?_, ?_, ?_, ?_⟩, ?_, ?_⟩
 ·rw [hW.2 b (Nat.lt_of_lt_of_le hb (Nat.le_trans hE03.size hk3.1)) hx.2, hk3.2 b (Nat.lt_of_lt_of_le hb hE03.size) hx.1, hE03.2 b hb]
 ·rw [cell_putc, if_pos ⟨rfl, rfl⟩, d0]; rfl
 ·rw [cell_putc, if_neg (by simp)]; exact d1
 ·rw [frz_putc]; exact dz
 ·refine RowHd.mono (H := H3) (M := fun x => (M x ∨ x = H2.size) ∧ x < H3.size) (G := fun x => G x ∨ G2 x) ⟨_, hrow3.lt, by simp [hlen], fun k hk hk' => ?_⟩ (fun _ h => h) (fun _ h => h) hW.1 fun b hb _ => hW.2 b (by assumption) fun e => ?_
  ·rw [take_map_get css m cs2 k (by rw [hlen]; exact hP.le) hk, take_map_get L m h k hP.le hk']
   have hkl : k < css.length + 1 := by simp at hk; have := hP.le; omega
   have old : ∀ j (hj : j < css.length) (hj' : j < L.length), ElHd (fun x => G x ∨ G2 x) H3 css[j] L[j] := fun j hj hj' =>
    (hel j hj hj').mono (fun b hb => .inl hb) fun b hb hb' => by
     rw [hk3.2 b (Nat.lt_of_lt_of_le hb' hE03.size) (fun hm => hT.dis b hm hb), hE03.2 b hb']
   by_cases h1 : k < m
   ·rw [dif_pos h1, dif_pos h1]
    exact old k _ _
   ·rw [dif_neg h1, dif_neg h1]
    by_cases h2 : k = m
    ·rw [dif_pos h2, dif_pos h2]
     exact he2.mono (fun b hb => .inr hb) fun b hb hb' => hk3.2 b hb' fun hm => by have := hMlt b hm; have := (hlt2 b (.inr hb)).1; omega
    ·rw [dif_neg h2, dif_neg h2]
     exact old (k - 1) _ _
  ·subst e
   rcases hb with ⟨hm | hm, _⟩ | hg | hg
   ·exact hT.pM hm
   ·have := hE03.size; omega
   ·exact hT.pG hg
   ·have := (hlt2 b (.inr hg)).1; omega
 ·rintro ⟨hm | hm, _⟩
  ·exact hT.pM hm
  ·have := hE03.size; omega
 ·rintro (hg | hg)
  ·exact hT.pG hg
  ·have := (hlt2 p (.inr hg)).1; omega
 ·rintro x ⟨hm | hm, _⟩ (hg | hg)
  ·exact hT.dis x hm hg
  ·have := hMlt x hm; have := (hlt2 x (.inr hg)).1; omega
  ·have := hT.lt x (.inr hg); have := hE03.size; omega
  ·have := (hlt2 x (.inr hg)).2; omega
 ·rw [putc_size]
  rintro x (⟨_, hx⟩ | hg | hg)
  ·exact hx
  ·exact Nat.lt_of_lt_of_le (hT.lt x (.inr hg)) (Nat.le_trans hE03.size hk3.1)
  ·exact Nat.lt_of_lt_of_le (hlt2 x (.inr hg)).2 hk3.1
 ·rintro x ⟨hm | hm, _⟩
  ·exact .inl hm
  ·have := hE03.size; exact .inr (by omega)
 ·rintro x (hg | hg)
  ·exact .inl hg
  ·have := (hlt2 x (.inr hg)).1; exact .inr (by omega)
end Go.WK
/-
 A table: how many, of a span, freed, of a key.
-/
namespace Go.WK
open Go Go.Proofs

theorem there_cl {H : Hp} {p : Nat} (h : cell H p (0 + 1) = some (.bool true)) : Cl Tryz.prog 48 [.pointer (some ⟨p, 0, none⟩)] H fun r H' => r = .bool true ∧ H' = H := by
 refine cl_of mixed c_holds_Holds_there (Nat.le_of_ble_eq_true rfl) ?_
 simp only [fwp, ir_holds_Holds_there, argF, Nat.reduceAdd]
 refine w_reg fun K hK => ?_; simp (disch := omega) only [↓wD, wU, simprocAttr]; refine hK _ _ ?_; clear hK K
 refine w_reg fun K hK => ?_
 simp (disch := omega) only [↓wD, wU, simprocAttr, h]
 refine hK _ _ ?_
 clear hK K
 refine w_ret ?_; (with_reducible repeat first | apply q_n | apply q_e | apply q_r | apply bq_n | apply bq_e | apply bq_r | apply bq_o rfl); refine ret1 (by (try simp only [wL, Nat.reduceBEq]); rfl) ?_
 exact ⟨rfl, rfl⟩
theorem Tab.c1' {M G : Nat → Prop} {H : Hp} {p : Nat} {L : List Hd} {v : Value} (h : Tab M G H p L v) : cell H p (0 + 1) = some (.bool true) := h.c1
theorem Tab.ext {M G : Nat → Prop} {H H' : Hp} {p : Nat} {L : List Hd} {v : Value} (h : Tab M G H p L v) (hE : Ext H H') : Tab M G H' p L v :=
 ⟨(hE.cell p 0 (cell_lt h.c0)).trans h.c0, (hE.cell p 1 (cell_lt h.c0)).trans h.c1, by rw [frz_block (hE.2 p (cell_lt h.c0))]; exact h.fz, h.row.mono (fun _ h => h) (fun _ h => h) hE.size fun b _ hb => hE.2 b hb, h.pM, h.pG, h.dis, fun x hx => Nat.lt_of_lt_of_le (h.lt x hx) hE.size⟩

theorem New_cl {H : Hp} : Cl Tryz.prog 38 [] H fun r H' => r = .pointer (some ⟨H.size, 0, none⟩) ∧ Ext H H' ∧ Tab (fun _ => False) (fun _ => False) H' H.size [] (.slice none 0 0) := by
 refine cl_of mixed c_holds_New (Nat.le_of_ble_eq_true rfl) ?_
 simp only [fwp, ir_holds_New, argF, Nat.reduceAdd]
 refine w_reg fun K hK => ?_; simp (disch := omega) only [↓wD, wU, simprocAttr]; refine hK _ _ ?_; clear hK K
 refine w_reg fun K hK => ?_; simp (disch := omega) only [↓wD, wU, simprocAttr]; refine hK _ _ ?_; clear hK K
 refine w_ret ?_; (with_reducible repeat first | apply q_n | apply q_e | apply q_r | apply bq_n | apply bq_e | apply bq_r | apply bq_o rfl); refine ret1 (by (try simp only [wL, Nat.reduceBEq]); rfl) ?_
 refine ⟨rfl, (Ext.refl _).push _, ?_, ?_, ?_, RowHd.nil, by simp, by simp, by simp, by simp⟩
 ·exact cell_new H [_, _] _ 0
 ·exact cell_new H [_, _] _ 1
 ·exact frz_new H [_, _] _ 0

theorem Many_cl {M G : Nat → Prop} {H : Hp} {p : Nat} {L : List Hd} {v : Value} (hT : Tab M G H p L v) : Cl Tryz.prog 16 [.pointer (some ⟨p, 0, none⟩)] H fun r H' => r = .int .i64 L.length ∧ H' = H := by
 obtain ⟨a, c, rfl, -⟩ := hT.row.form
 refine cl_of mixed c_holds_Holds_Many (Nat.le_of_ble_eq_true rfl) ?_
 simp only [fwp, ir_holds_Holds_Many, argF, Nat.reduceAdd]
 have c0 := hT.c0
 refine w_reg fun K hK => ?_; simp (disch := omega) only [↓wD, wU, simprocAttr]; refine hK _ _ ?_; clear hK K
 refine w_seq (w_seq ?_)
 refine w_reg fun K hK => ?_
 simp (disch := omega) only [↓wD, wU, simprocAttr]
 refine w_call (there_cl hT.c1') ?_
 rintro _ H1 ⟨rfl, e⟩
 subst e
 simp (disch := omega) only [↓wD, wU, simprocAttr]
 refine hK _ _ ?_
 clear hK K
 refine wf ?_
 refine w_skip ?_
 (with_reducible repeat first | apply q_n | apply q_e | apply q_r | apply bq_n | apply bq_e | apply bq_r | apply bq_o rfl)
 refine w_reg fun K hK => ?_; simp (disch := omega) only [↓wD, wU, simprocAttr, c0]; refine hK _ _ ?_; clear hK K
 refine w_ret ?_; (with_reducible repeat first | apply q_n | apply q_e | apply q_r | apply bq_n | apply bq_e | apply bq_r | apply bq_o rfl); refine ret1 (by (try simp only [wL, Nat.reduceBEq]); rfl) ?_
 exact ⟨rfl, rfl⟩

theorem In_cl {M G : Nat → Prop} {H : Hp} {p : Nat} {L : List Hd} {v : Value} (lo hi : ByteArray) (hT : Tab M G H p L v) (hs : Sm L) (h1 : Sz lo) (h2 : Sz hi) : Cl Tryz.prog 12 [.pointer (some ⟨p, 0, none⟩), .agg #[.string lo, .string hi]] H fun r H' => Fresh H r (L.filter fun h => spHas lo hi h.key) H' := by
 refine cl_of mixed c_holds_Holds_In (Nat.le_of_ble_eq_true rfl) ?_
 simp only [fwp, ir_holds_Holds_In, argF, Nat.reduceAdd]
 refine w_reg fun K hK => ?_; simp (disch := omega) only [↓wD, wU, simprocAttr]; refine hK _ _ ?_; clear hK K
 generalize hH0 : H.push (.cells #[.string lo, .string hi] 31) = H0
 have hE0 : Ext H H0 := by subst hH0; exact (Ext.refl _).push _
 have hc : rdn H0 H.size 0 2 = some [.string lo, .string hi] := by subst hH0; exact rdn_new H [_, _] 31 0 2 (Nat.le_refl _)
 obtain ⟨c0, c1⟩ := rdn2 hc
 clear hH0
 have hT0 := hT.ext hE0
 refine w_seq (w_seq ?_)
 refine w_reg fun K hK => ?_
 simp (disch := omega) only [↓wD, wU, simprocAttr]
 refine w_call (there_cl hT0.c1') ?_
 rintro _ H1 ⟨rfl, e⟩
 subst e
 simp (disch := omega) only [↓wD, wU, simprocAttr]
 refine hK _ _ ?_
 clear hK K
 refine wf ?_
 refine w_skip ?_
 (with_reducible repeat first | apply q_n | apply q_e | apply q_r | apply bq_n | apply bq_e | apply bq_r | apply bq_o rfl)
 refine w_reg fun K hK => ?_
 simp (disch := omega) only [↓wD, wU, simprocAttr]
 refine w_call (those_cl hT0 hs ((in_fn (M := M) (G := G) c0 c1 h1 h2 (fun hm => by have := hT.lt _ (.inl hm); omega)).on L)) ?_
 rintro _ H2 hF
 simp (disch := omega) only [↓wD, wU, simprocAttr]
 refine hK _ _ ?_
 clear hK K
 refine w_ret ?_; (with_reducible repeat first | apply q_n | apply q_e | apply q_r | apply bq_n | apply bq_e | apply bq_r | apply bq_o rfl); refine ret1 (by (try simp only [wL, Nat.reduceBEq]); rfl) ?_
 exact hF.pre hE0

theorem Free_cl {M G S : Nat → Prop} {H : Hp} {p : Nat} {L : List Hd} {v vk : Value} {l : List ByteArray} (hT : Tab M G H p L v) (hs : Sm L) (hk : StrSl S H vk l) (hS : ∀ x, S x → ¬ M x) : Cl Tryz.prog 17 [.pointer (some ⟨p, 0, none⟩), vk] H fun r H' => FreshIn H.size H' r (L.filter fun h => l.any fun x => decide (h.key = x)) ∧ KeepOn (fun x => ¬ M x ∧ x ≠ p) H H' ∧ ∃ v', Tab M G H' p (L.filter fun h => !l.any fun x => decide (h.key = x)) v' := by
 obtain ⟨a, c, rfl, -⟩ := SlP.open hk
 refine cl_of mixed c_holds_Holds_Free (Nat.le_of_ble_eq_true rfl) ?_
 simp only [fwp, ir_holds_Holds_Free, argF, Nat.reduceAdd]
 refine w_reg fun K hK => ?_; simp (disch := omega) only [↓wD, wU, simprocAttr]; refine hK _ _ ?_; clear hK K
 generalize hH0 : H.push (.cells #[.slice a l.length c] 74) = H0
 have hE0 : Ext H H0 := by subst hH0; exact (Ext.refl _).push _
 have hc : cell H0 H.size 0 = some (.slice a l.length c) := by subst hH0; exact cell_new H [_] 74 0
 clear hH0
 have hT0 := hT.ext hE0
 refine w_seq (w_seq ?_)
 refine w_reg fun K hK => ?_
 simp (disch := omega) only [↓wD, wU, simprocAttr]
 refine w_call (there_cl hT0.c1') ?_
 rintro _ H1 ⟨rfl, e⟩
 subst e
 simp (disch := omega) only [↓wD, wU, simprocAttr]
 refine hK _ _ ?_
 clear hK K
 refine wf ?_
 refine w_skip ?_
 (with_reducible repeat first | apply q_n | apply q_e | apply q_r | apply bq_n | apply bq_e | apply bq_r | apply bq_o rfl)
 refine w_reg fun K hK => ?_
 simp (disch := omega) only [↓wD, wU, simprocAttr]
 refine w_call (less_cl hT0 hs (free_fn (M := M) (G := G) hc (fun hm => by have := hT.lt _ (.inl hm); omega) (hk.ext hE0) hS)) ?_
 rintro _ H2 ⟨hF, hkp, hT2⟩
 simp (disch := omega) only [↓wD, wU, simprocAttr]
 refine hK _ _ ?_
 clear hK K
 refine w_ret ?_; (with_reducible repeat first | apply q_n | apply q_e | apply q_r | apply bq_n | apply bq_e | apply bq_r | apply bq_o rfl); refine ret1 (by (try simp only [wL, Nat.reduceBEq]); rfl) ?_
 refine ⟨?_, (hE0.on _).trans hkp, hT2⟩
 obtain ⟨M2, G2, h1, h2, h3⟩ := hF
 exact ⟨M2, G2, h1, fun x hx => ⟨Nat.le_trans hE0.size (h2 x hx).1, (h2 x hx).2⟩, h3⟩

def Hd.zero : Hd := ⟨.empty, ⟨0, 0⟩, [], [], false, .empty⟩
theorem El_zero (G : Nat → Prop) (H : Hp) : ElHd G H zHold Hd.zero := ⟨_, _, rfl, ⟨by decide, .inl ⟨_, rfl, rfl⟩⟩, ⟨by decide, .inl ⟨_, rfl, rfl⟩⟩, ⟨⟨by decide, by decide⟩, ⟨by decide, by decide⟩⟩, by unfold Sz; decide, by unfold Sz; decide⟩
theorem Of_cl {M G : Nat → Prop} {H : Hp} {p : Nat} {L : List Hd} {v : Value} (key : ByteArray) (hT : Tab M G H p L v) (hs : Sorted L) (hm : Sm L) : Cl Tryz.prog 14 [.pointer (some ⟨p, 0, none⟩), .string key] H fun r H' => Ext H H' ∧ ∃ (x : Hd) (cs : List Value) (G2 : Nat → Prop), r = .tuple #[.agg cs.toArray, .bool (hasK L key)] ∧ ElHd G2 H' cs x ∧ (∀ y, G2 y → H.size ≤ y ∧ y < H'.size) ∧ (if hasK L key then x ∈ L ∧ x.key = key else x = Hd.zero) := by
 refine cl_of mixed c_holds_Holds_Of (Nat.le_of_ble_eq_true rfl) ?_
 simp only [fwp, ir_holds_Holds_Of, argF, Nat.reduceAdd]
 refine w_reg fun K hK => ?_; simp (disch := omega) only [↓wD, wU, simprocAttr]; refine hK _ _ ?_; clear hK K
 generalize hH0 : H.push (.cells #[.string .empty, .int .i64 0, .int .i64 0, .slice none 0 0, .slice none 0 0, .bool false, .string .empty] 35) = H0
 have hE0 : Ext H H0 := by subst hH0; exact (Ext.refl _).push _
 have hc : rdn H0 H.size 0 7 = some zHold := by subst hH0; exact rdn_new H zHold 35 0 7 (Nat.le_refl _)
 have hf0 : ∀ j, frz H0 H.size j = false := by subst hH0; exact fun j => frz_new H zHold 35 j
 have hlt0 : H.size < H0.size := by subst hH0; simp
 clear hH0
 have hT0 := hT.ext hE0
 refine w_seq (w_seq ?_)
 refine w_reg fun K hK => ?_
 simp (disch := omega) only [↓wD, wU, simprocAttr]
 refine w_call (there_cl hT0.c1') ?_
 rintro _ H1 ⟨rfl, e⟩
 subst e
 simp (disch := omega) only [↓wD, wU, simprocAttr]
 refine hK _ _ ?_
 clear hK K
 refine wf ?_
 refine w_skip ?_
 (with_reducible repeat first | apply q_n | apply q_e | apply q_r | apply bq_n | apply bq_e | apply bq_r | apply bq_o rfl)
 refine w_reg fun K hK => ?_
 simp (disch := omega) only [↓wD, wU, simprocAttr]
 refine w_call (at_cl key hT0 hs (by have := hm.1; unfold big; omega)) ?_
 rintro _ H2 ⟨hE2, m, hP, rfl⟩
 simp (disch := omega) only [↓wD, wU, simprocAttr]
 refine hK _ _ ?_
 clear hK K
 have hlt2 : H.size < H2.size := Nat.lt_of_lt_of_le hlt0 hE2.size
 have hOwn : ∀ {HX : Hp}, Ext H2 HX → Own HX H.size 0 7 := fun {HX} hX j hj => by
  have h1 := (rdn_spec (rdn_ext (hE2.trans hX) hc)).2 j hj
  rw [h1, frz_block ((hE2.trans hX).2 _ hlt0), hf0]
  exact ⟨by rw [List.getElem?_eq_getElem (by simpa using hj)]; rfl, rfl⟩
 refine w_seq (w_seq ?_)
 cases hk : hasK L key with
 | false =>
  obtain ⟨H3, hw, hW⟩ := wrn_ok (l := zHold) (hOwn (Ext.refl H2)) (by have := zHold_one 1; exact this)
  have hr3 := hW.rdn_at
  refine w_reg fun K hK => ?_; simp (disch := omega) only [↓wD, wU, simprocAttr]; refine hK _ _ ?_; clear hK K
  refine wt ?_
  refine w_reg fun K hK => ?_; simp (disch := omega) only [↓wD, wU, simprocAttr, hw]; refine hK _ _ ?_; clear hK K
  refine w_ret ?_
  (with_reducible repeat first | apply q_n | apply q_e | apply q_r | apply bq_n | apply bq_e | apply bq_r | apply bq_o rfl)
  refine retG (v := .tuple #[.agg zHold.toArray, .bool false]) (by
   have hr3' : rdn H3 H.size 0 7 = some zHold := hr3
   simp (disch := omega) only [resV, rvsV, rvV, oneOr, ↓wD, wU, simprocAttr, hr3']) ?_
  refine ⟨hW.ext (hE0.trans hE2) (Nat.le_refl _), Hd.zero, zHold, fun _ => False, rfl, El_zero _ _, by simp, ?_⟩
  simp
 | true =>
  have hmL : m < L.length := by
   rcases Nat.lt_or_ge m L.length with h | h
   ·exact h
   ·have := hP.none (by have := hP.le; omega)
    rw [hk] at this; cases this
  have hkm : L[m].key = key := by
   have := hP.has hs hmL
   rw [hk] at this
   simpa using this.symm
  have hT2 := hT0.ext hE2
  obtain ⟨a, c, rfl, hel⟩ := hT2.row.form
  obtain ⟨b, rfl, cs, hcs, he⟩ := hel m hmL
  have hc0 := hT2.c0
  refine w_reg fun K hK => ?_; simp (disch := omega) only [↓wD, wU, simprocAttr]; refine hK _ _ ?_; clear hK K
  refine wf ?_
  refine w_skip ?_
  (with_reducible repeat first | apply q_n | apply q_e | apply q_r | apply bq_n | apply bq_e | apply bq_r | apply bq_o rfl)
  refine w_reg fun K hK => ?_
  have he' := he
  obtain ⟨va, vr, ecs, -⟩ := he'
  rw [ecs] at hcs
  simp (disch := omega) only [↓wD, wU, simprocAttr, hc0, hmL, hcs]
  rw [← ecs]
  have hmem := hm.2 _ (List.getElem_mem hmL)
  refine w_call (own_cl (he.sl1 35) ⟨by simp, fun x hx => by simp at hx; subst hx; exact hmem⟩) ?_
  rintro _ H3 ⟨hE3, M2, G2, hd2, hlt3, hrow⟩
  rename_i u
  have hE23 : Ext H2 H3 := ((Ext.refl H2).push _).trans hE3
  obtain ⟨a3, c3, eu, hel3⟩ := hrow.form
  obtain ⟨b3, rfl, cs3, hcs3, he3⟩ := hel3 0 (by simp)
  simp only [List.getElem_cons_zero, Nat.zero_mul, List.length_cons, List.length_nil, Nat.zero_add] at eu hcs3 he3
  subst eu
  obtain ⟨H4, hw, hW⟩ := wrn_ok (H := H3) (b := H.size) (o := 0) (l := cs3) (by rw [he3.len]; exact hOwn hE23) he3.one
  have hr4 := hW.rdn_at
  rw [he3.len] at hr4
  have h01 : (0 : Int) < ((1 : Nat) : Int) := by decide
  have t0 : (0 : Int).toNat = 0 := rfl
  simp (disch := omega) only [↓wD, wU, simprocAttr, hcs3, hw, he3.len, h01, Nat.zero_lt_one, t0]
  refine hK _ _ ?_
  clear hK K
  refine w_ret ?_
  (with_reducible repeat first | apply q_n | apply q_e | apply q_r | apply bq_n | apply bq_e | apply bq_r | apply bq_o rfl)
  refine retG (v := .tuple #[.agg cs3.toArray, .bool true]) (by
   simp (disch := omega) only [resV, rvsV, rvV, oneOr, ↓wD, wU, simprocAttr, hr4]) ?_
  have hG2 : ∀ y, G2 y → H2.size < y := fun y hy => by have := (hlt3 y (.inr hy)).1; simp at this; omega
  refine ⟨hW.ext ((hE0.trans hE2).trans hE23) (Nat.le_refl _), L[m], cs3, G2, rfl, he3.mono (fun _ h => h) fun y hy _ => hW.other y (by have := hG2 y hy; omega), fun y hy => ⟨by have := hG2 y hy; omega, by rw [hW.size]; exact (hlt3 y (.inr hy)).2⟩, ?_⟩
  simp only [if_true]
  exact ⟨List.getElem_mem hmL, hkm⟩
end Go.WK
/-
 Put.
-/
namespace Go.WK
open Go Go.Proofs

/-- What a table holds. -/
structure WF (L : List Hd) : Prop where
 sorted : Sorted L
 le : L.length ≤ 60
 right : ∀ h ∈ L, rightB h = true
theorem rightB_small {h : Hd} (hr : rightB h = true) : h.acts.length ≤ 6 ∧ h.reads.length ≤ 6 := by
 simp only [rightB, actsB, Bool.and_eq_true, decide_eq_true_eq] at hr
 have h1 := hr.1.1.1.1.1.2.1.2
 have h2 := hr.1.1.1.2
 have h3 := List.countP_le_length (p := fun a : Ac => !decide (a.kind = 2)) (l := h.acts)
 exact ⟨h1, by omega⟩
theorem WF.sm {L : List Hd} (h : WF L) : Sm L := ⟨by have := h.le; omega, fun x hx => by have := rightB_small (h.right x hx); omega⟩
theorem WF.nil : WF [] := ⟨List.Pairwise.nil, by simp, by simp⟩
theorem hasK_iff {L : List Hd} {k : ByteArray} : hasK L k = true ↔ ∃ x ∈ L, x.key = k := by
 simp [hasK, List.any_eq_true]
theorem ins_sorted {L : List Hd} {h : Hd} {m : Nat} (hs : Sorted L) (hP : Place L h.key m) (hno : hasK L h.key = false) : Sorted (L.take m ++ h :: L.drop m) := by
 have lo : ∀ x ∈ L.take m, sless x.key h.key = true := by
  intro x hx
  obtain ⟨k, hk, rfl⟩ := List.getElem_of_mem hx
  rw [List.length_take] at hk
  rw [List.getElem_take]
  exact hP.lo k (by omega) (by omega)
 have hi : ∀ x ∈ L.drop m, sless h.key x.key = true := by
  intro x hx
  obtain ⟨k, hk, rfl⟩ := List.getElem_of_mem hx
  rw [List.length_drop] at hk
  rw [List.getElem_drop]
  have h1 := hP.hi (m + k) (by omega) (by omega)
  cases h2 : sless h.key L[m + k].key with
  | true => rfl
  | false =>
   have := sless_total h1 h2
   have h3 : hasK L h.key = true := hasK_iff.2 ⟨_, List.getElem_mem _, this⟩
   rw [h3] at hno; cases hno
 refine List.pairwise_append.2 ⟨hs.sublist (List.take_sublist _ _), List.pairwise_cons.2 ⟨hi, hs.sublist (List.drop_sublist _ _)⟩, ?_⟩
 intro a ha b hb
 rcases List.mem_cons.1 hb with rfl | hb
 ·exact lo a ha
 ·exact sless_trans (lo a ha) (hi b hb)
theorem ins_mem {L : List Hd} {h x : Hd} {m : Nat} : x ∈ L.take m ++ h :: L.drop m ↔ x ∈ L ∨ x = h := by
 constructor
 ·intro hx
  rcases List.mem_append.1 hx with hx | hx
  ·exact .inl (List.mem_of_mem_take hx)
  ·rcases List.mem_cons.1 hx with rfl | hx
   ·exact .inr rfl
   ·exact .inl (List.mem_of_mem_drop hx)
 ·rintro (hx | rfl)
  ·rw [← List.take_append_drop m L] at hx
   rcases List.mem_append.1 hx with hx | hx
   ·exact List.mem_append.2 (.inl hx)
   ·exact List.mem_append.2 (.inr (List.mem_cons_of_mem _ hx))
  ·exact List.mem_append.2 (.inr (List.mem_cons_self))
def putE (L l : List Hd) : Int := if ¬ (l.map (·.key)).Nodup ∨ l.all rightB = false then 2 else if l.any (fun h => hasK L h.key) = true then 7 else if 60 < L.length + l.length then 8 else 0

theorem Put_cl {M G S : Nat → Prop} {H : Hp} {p : Nat} {L l : List Hd} {v vl : Value} (hT : Tab M G H p L v) (hW : WF L) (hv : HdSl S H vl l) (hS : ∀ x, S x → ¬ M x ∧ x ≠ p) : Cl Tryz.prog 13 [.pointer (some ⟨p, 0, none⟩), vl] H fun r H' => r = .int .i64 (putE L l) ∧ KeepOn (fun x => ¬ M x ∧ x ≠ p) H H' ∧
  ∃ L' M' G' v', WF L' ∧ Tab M' G' H' p L' v' ∧ Grown M G M' G' H.size ∧ (putE L l = 0 → (∀ x, x ∈ L' ↔ x ∈ L ∨ x ∈ l) ∧ L'.length = L.length + l.length) ∧ (putE L l ≠ 0 → L' = L) := by
 refine cl_of mixed c_holds_Holds_Put (Nat.le_of_ble_eq_true rfl) ?_
 simp only [fwp, ir_holds_Holds_Put, argF, Nat.reduceAdd]
 obtain ⟨a, c, rfl, hc, hl, hel⟩ := SlP.open hv
 refine w_reg fun K hK => ?_; simp (disch := omega) only [↓wD, wU, simprocAttr]; refine hK _ _ ?_; clear hK K
 refine w_seq (w_seq ?_)
 refine w_reg fun K hK => ?_
 simp (disch := omega) only [↓wD, wU, simprocAttr]
 refine w_call (there_cl hT.c1') ?_
 rintro _ H1 ⟨rfl, e⟩
 subst e
 simp (disch := omega) only [↓wD, wU, simprocAttr]
 refine hK _ _ ?_
 clear hK K
 refine wf ?_
 refine w_skip ?_
 (with_reducible repeat first | apply q_n | apply q_e | apply q_r | apply bq_n | apply bq_e | apply bq_r | apply bq_o rfl)
 refine w_reg fun K hK => ?_
 simp (disch := omega) only [↓wD, wU, simprocAttr, i_mkm]
 refine hK _ _ ?_
 clear hK K
 have hE1 : Ext H1 (H1.push (.map #[] 0)) := (Ext.refl _).push _
 have hMS1 := MapS_new H1
 generalize H1.push (.map #[] 0) = Hm at hE1 hMS1 ⊢
 refine w_seq (w_seq ?_)
 refine w_reg fun K hK => ?_; simp (disch := omega) only [↓wD, wU, simprocAttr]; refine hK _ _ ?_; clear hK K
 refine w_blk (w_loop (fun n f H' => Ext H1 H' ∧ f 0 = .pointer (some ⟨p, 0, none⟩) ∧ f 1 = .slice a l.length c ∧ f 5 = .map (some H1.size) ∧ f 17 = .slice a l.length c ∧ f 18 = .int .i64 l.length ∧ ∃ (i : Nat) (ks : List ByteArray), f 19 = .int .i64 i ∧ i ≤ l.length ∧ MapS H' H1.size ks ∧ f 6 = .bool ((l.take i).any fun h => hasK L h.key) ∧ ks.length ≤ i ∧ (ks.length = i ↔ ((l.take i).map (·.key)).Nodup) ∧ (∀ k, k ∈ ks ↔ k ∈ (l.take i).map (·.key)) ∧ n = l.length - i) _ ⟨hE1, (by simp only [wL, Nat.reduceBEq]), (by simp only [wL, Nat.reduceBEq]), (by simp only [wL, Nat.reduceBEq]), (by simp only [wL, Nat.reduceBEq]), (by simp only [wL, Nat.reduceBEq]), 0, [], rfl, Nat.zero_le _, hMS1, (by simp only [wL, Nat.reduceBEq]; rfl), Nat.le_refl _, by simp, by simp, rfl⟩ ?_)
 rintro n f H' ⟨hE, f0, f1, f5, f17, f18, i, ks, f19, hi, hMS, f6, hkl, hkn, hkm, rfl⟩
 by_cases hil : i < l.length
 ·obtain ⟨b, o, rfl, hSb, cs, hcs, he⟩ := hel i hil
  have htake : l.take (i + 1) = l.take i ++ [l[i]] := by
   rw [List.take_add_one, List.getElem?_eq_getElem hil]; rfl
  have hcs' := rdn_ext hE hcs
  have he' := he
  obtain ⟨va, vr, rfl, ha, hr, hnm, hsk, hsv⟩ := he'
  obtain ⟨xa, ca, rfl, hca, -⟩ := ha.form
  obtain ⟨xr, cr, rfl, hcr, -⟩ := hr.form
  refine w_reg fun K hK => ?_; simp (disch := omega) only [↓wD, wU, simprocAttr, f18, f19, hil]; refine hK _ _ ?_; clear hK K
  refine w_seq ?_
  refine wt ?_
  refine w_skip ?_
  (with_reducible repeat first | apply q_n | apply q_e | apply q_r | apply bq_n | apply bq_e | apply bq_r | apply bq_o rfl)
  refine w_seq (w_blk ?_)
  refine w_reg fun K hK => ?_; simp (disch := omega) only [↓wD, wU, simprocAttr, f17, f19, hil, hcs']; refine hK _ _ ?_; clear hK K
  generalize hH0 : H'.push (.cells #[.string l[i].key, .int .i64 l[i].name.client, .int .i64 l[i].name.num, .slice xa l[i].acts.length ca, .slice xr l[i].reads.length cr, .bool l[i].put, .string l[i].value] 35) = H0
  have hE0 : Ext H' H0 := by subst hH0; exact (Ext.refl _).push _
  have hc0 : cell H0 H'.size 0 = some (.string l[i].key) := by subst hH0; exact cell_new H' [_, _, _, _, _, _, _] 35 0
  clear hH0
  have hlt0 := cell_lt hc0
  refine w_reg fun K hK => ?_
  simp (disch := omega) only [↓wD, wU, simprocAttr, f0, hc0]
  refine w_call (at_cl l[i].key (hT.ext (hE.trans hE0)) hW.sorted (by have := hW.le; unfold big; omega)) ?_
  rintro _ H2 ⟨hE2, m, hP, rfl⟩
  simp (disch := omega) only [↓wD, wU, simprocAttr]
  refine hK _ _ ?_
  clear hK K
  have hc2 := (hE2.cell H'.size 0 hlt0).trans hc0
  have hMS2 : MapS H2 H1.size ks := hMS.block ((hE0.trans hE2).2 _ hMS.lt)
  have hE12 : Ext H1 H2 := (hE.trans hE0).trans hE2
  refine w_cut (fun g H'' => H'' = H2 ∧ g 0 = .pointer (some ⟨p, 0, none⟩) ∧ g 1 = .slice (some ⟨b, o, none⟩) l.length c ∧ g 5 = .map (some H1.size) ∧ g 8 = .pointer (some ⟨H'.size, 0, none⟩) ∧ g 17 = .slice (some ⟨b, o, none⟩) l.length c ∧ g 18 = .int .i64 l.length ∧ g 19 = .int .i64 i ∧ g 6 = .bool ((l.take (i + 1)).any fun h => hasK L h.key)) ?_ ?_
  ·have hany : (l.take (i + 1)).any (fun h => hasK L h.key) = ((l.take i).any (fun h => hasK L h.key) || hasK L l[i].key) := by
    rw [htake, List.any_append]; simp
   cases h1 : (l.take i).any fun h => hasK L h.key with
   | true =>
    rw [h1] at f6 hany
    refine w_reg1 fun K hK => ?_; simp (disch := omega) only [↓wD, wU, simprocAttr, f6]; refine hK _ _ ?_; clear hK K
    (with_reducible repeat first | apply q_n | apply q_e | apply q_r | apply bq_n | apply bq_e | apply bq_r | apply bq_o rfl)
    exact ⟨rfl, (by simp only [wL, Nat.reduceBEq, f0]), (by simp only [wL, Nat.reduceBEq, f1]), (by simp only [wL, Nat.reduceBEq, f5]), (by simp only [wL, Nat.reduceBEq]), (by simp only [wL, Nat.reduceBEq, f17]), (by simp only [wL, Nat.reduceBEq, f18]), (by simp only [wL, Nat.reduceBEq, f19]), by simp only [wL, Nat.reduceBEq]; rw [hany]; rfl⟩
   | false =>
    rw [h1] at f6 hany
    refine w_reg1 fun K hK => ?_; simp (disch := omega) only [↓wD, wU, simprocAttr, f6]; refine hK _ _ ?_; clear hK K
    (with_reducible repeat first | apply q_n | apply q_e | apply q_r | apply bq_n | apply bq_e | apply bq_r | apply bq_o rfl)
    exact ⟨rfl, (by simp only [wL, Nat.reduceBEq, f0]), (by simp only [wL, Nat.reduceBEq, f1]), (by simp only [wL, Nat.reduceBEq, f5]), (by simp only [wL, Nat.reduceBEq]), (by simp only [wL, Nat.reduceBEq, f17]), (by simp only [wL, Nat.reduceBEq, f18]), (by simp only [wL, Nat.reduceBEq, f19]), by simp only [wL, Nat.reduceBEq]; rw [hany]; rfl⟩
  rintro g _ ⟨rfl, g0, g1, g5, g8, g17, g18, g19, g6⟩
  rename_i H2
  refine w_reg1 fun K hK => ?_
  simp (disch := omega) only [↓wD, wU, simprocAttr, g5, g8, hc2]
  have hnd : ((l.take (i + 1)).map (·.key)).Nodup ↔ ((l.take i).map (·.key)).Nodup ∧ l[i].key ∉ (l.take i).map (·.key) := by
   rw [htake, List.map_append, List.map_cons, List.map_nil, List.nodup_append]
   constructor
   ·rintro ⟨h1, _, h2⟩
    exact ⟨h1, fun hm => h2 _ hm _ (List.mem_singleton.2 rfl) rfl⟩
   ·rintro ⟨h1, h2⟩
    refine ⟨h1, List.nodup_cons.2 ⟨by simp, List.nodup_nil⟩, fun x hx y hy e => ?_⟩
    rw [List.mem_singleton] at hy
    subst hy
    subst e
    exact h2 hx
  have hmm : ∀ k, k ∈ (l.take (i + 1)).map (·.key) ↔ k ∈ (l.take i).map (·.key) ∨ k = l[i].key := by
   intro k; rw [htake, List.map_append, List.map_cons, List.map_nil, List.mem_append, List.mem_singleton]
  have goOn : ∀ (ks' : List ByteArray) (H3 : Hp), MapS H3 H1.size ks' → H3.size = H2.size → (∀ b, b ≠ H1.size → H3[b]? = H2[b]?) → ks'.length ≤ i + 1 → (ks'.length = i + 1 ↔ ((l.take (i + 1)).map (·.key)).Nodup) → (∀ k, k ∈ ks' ↔ k ∈ (l.take (i + 1)).map (·.key)) → K (upd (upd (upd g 36 (.map (some H1.size))) 37 (.pointer (some ⟨H'.size, 0, none⟩))) 38 (.string l[i].key)) H3 := by
   intro ks' H3 q1 q2 q3 q4 q5 q6
   refine hK _ _ ?_
   clear hK K
   (with_reducible repeat first | apply q_n | apply q_e | apply q_r | apply bq_n | apply bq_e | apply bq_r | apply bq_o rfl)
   refine w_reg1 fun K hK => ?_; simp (disch := omega) only [↓wD, wU, simprocAttr, g19]; refine hK _ _ ?_; clear hK K
   (with_reducible repeat first | apply q_n | apply q_e | apply q_r | apply bq_n | apply bq_e | apply bq_r | apply bq_o rfl)
   exact ⟨l.length - (i + 1), by omega, ⟨by rw [q2]; exact hE12.1, fun b hb => by rw [q3 b (by omega)]; exact hE12.2 b hb⟩, (by simp only [wL, Nat.reduceBEq, g0]), (by simp only [wL, Nat.reduceBEq, g1]), (by simp only [wL, Nat.reduceBEq, g5]), (by simp only [wL, Nat.reduceBEq, g17]), (by simp only [wL, Nat.reduceBEq, g18]), i + 1, ks', (by simp only [wL, Nat.reduceBEq]), by omega, q1, (by simp only [wL, Nat.reduceBEq, g6]), q4, q5, q6, rfl⟩
  refine mup_s (r := H1.size) (ks := ks) (x := l[i].key) (by simp only [wL, Nat.reduceBEq]) (by simp only [wL, Nat.reduceBEq]) hMS2 ?_ ?_
  ·intro hin H3 q1 q2 q3
   refine goOn ks H3 q1 q2 q3 (by omega) ?_ ?_
   ·rw [hnd]
    exact ⟨fun e => by omega, fun ⟨_, h⟩ => absurd ((hkm _).1 hin) h⟩
   ·intro k
    rw [hmm k, hkm k]
    exact ⟨.inl, fun h => h.elim id fun e => by rw [e]; exact (hkm _).1 hin⟩
  ·intro hnin H3 q1 q2 q3
   refine goOn (ks ++ [l[i].key]) H3 q1 q2 q3 (by simp; omega) ?_ ?_
   ·rw [hnd, ← hkn, ← hkm]
    simp [hnin]
   ·intro k
    rw [hmm k, List.mem_append, hkm k, List.mem_singleton]
 ·refine w_reg fun K hK => ?_; simp (disch := omega) only [↓wD, wU, simprocAttr, f18, f19, hil]; refine hK _ _ ?_; clear hK K
  refine w_seq ?_
  refine wf ?_
  refine w_exit ?_
  (with_reducible repeat first | apply q_n | apply q_e | apply q_r | apply bq_n | apply bq_e | apply bq_r | apply bq_o rfl)
  have hfull : l.take i = l := List.take_of_length_le (by omega)
  rw [hfull] at f6 hkn hkm
  have hil' : i = l.length := by omega
  subst hil'
  have hvx := HdSl.ext hv hE
  have hTx := hT.ext hE
  -- why nothing is laid
  have bad : ∀ (g : Fr) (HX : Hp) (n : Int), Ext H1 HX → putE L l = n → n ≠ 0 → retQ [RV.t 4] (fun r H' => r = .int .i64 (putE L l) ∧ KeepOn (fun x => ¬ M x ∧ x ≠ p) H1 H' ∧ ∃ L' M' G' v', WF L' ∧ Tab M' G' H' p L' v' ∧ Grown M G M' G' H1.size ∧ (putE L l = 0 → (∀ x, x ∈ L' ↔ x ∈ L ∨ x ∈ l) ∧ L'.length = L.length + l.length) ∧ (putE L l ≠ 0 → L' = L)) .ret (upd g 4 (.int .i64 n)) HX := by
   intro g HX n hx hn hn0
   refine ret1 (by simp only [wL, Nat.reduceBEq]; rfl) ?_
   exact ⟨by rw [hn], hx.on _, L, M, G, v, hW, hT.ext hx, Grown.refl, fun h0 => absurd (hn.symm.trans h0) hn0, fun _ => rfl⟩
  refine w_seq ?_
  refine w_blk ?_
  refine w_cut (fun g HX => Ext H1 HX ∧ g 0 = .pointer (some ⟨p, 0, none⟩) ∧ g 1 = .slice a l.length c ∧ g 6 = .bool (l.any fun h => hasK L h.key) ∧ g 40 = .bool (decide (¬ (l.map (·.key)).Nodup) || !l.all rightB)) ?_ ?_
  ·refine w_reg fun K hK => ?_
   rw [r_s, i_mv, r_s]
   refine mlen_s (r := H1.size) (ks := ks) (by simp only [wL, Nat.reduceBEq, f5]) hMS ?_
   have hklt : (ks.length < l.length) = ¬ (l.map (·.key)).Nodup := by
    rw [← hkn]
    exact propext ⟨fun h e => by omega, fun h => by omega⟩
   by_cases hnd : (l.map (·.key)).Nodup
   ·have hF : (ks.length < l.length) = False := by rw [hklt]; simp [hnd]
    simp (disch := omega) only [↓wD, wU, simprocAttr, f1, hF]
    refine hK _ _ ?_
    clear hK K
    refine wf ?_
    refine w_reg1 fun K hK => ?_
    simp (disch := omega) only [↓wD, wU, simprocAttr, f1]
    refine w_call (Right_cl hvx) ?_
    rintro _ H2 ⟨rfl, hE2⟩
    simp (disch := omega) only [↓wD, wU, simprocAttr]
    refine hK _ _ ?_
    clear hK K
    (with_reducible repeat first | apply q_n | apply q_e | apply q_r | apply bq_n | apply bq_e | apply bq_r | apply bq_o rfl)
    exact ⟨hE.trans hE2, (by simp only [wL, Nat.reduceBEq, f0]), (by simp only [wL, Nat.reduceBEq, f1]), (by simp only [wL, Nat.reduceBEq, f6]), by simp only [wL, Nat.reduceBEq]; simp [hnd]⟩
   ·have hTr : (ks.length < l.length) = True := by rw [hklt]; simp [hnd]
    simp (disch := omega) only [↓wD, wU, simprocAttr, f1, hTr]
    refine hK _ _ ?_
    clear hK K
    refine wt ?_
    refine w_skip ?_
    (with_reducible repeat first | apply q_n | apply q_e | apply q_r | apply bq_n | apply bq_e | apply bq_r | apply bq_o rfl)
    exact ⟨hE, (by simp only [wL, Nat.reduceBEq, f0]), (by simp only [wL, Nat.reduceBEq, f1]), (by simp only [wL, Nat.reduceBEq, f6]), by simp only [wL, Nat.reduceBEq]; simp [hnd]⟩
  rintro g HX ⟨hEX, g0, g1, g6, g40⟩
  have hTX := hT.ext hEX
  obtain ⟨av, cv, rfl, -⟩ := hT.row.form
  have hc0 := hTX.c0
  cases hb1 : (decide (¬ (l.map (·.key)).Nodup) || !l.all rightB) with
  | true =>
   rw [hb1] at g40
   refine w_true (by simp only [wL, Nat.reduceBEq, Bool.not_true, Bool.not_false, g40]) ?_
   refine w_reg fun K hK => ?_; simp (disch := omega) only [↓wD, wU, simprocAttr]; refine hK _ _ ?_; clear hK K
   refine w_ret ?_
   (with_reducible repeat first | apply q_n | apply q_e | apply q_r | apply bq_n | apply bq_e | apply bq_r | apply bq_o rfl)
   refine bad g HX 2 hEX ?_ (by decide)
   unfold putE
   rw [if_pos]
   simp only [Bool.or_eq_true, decide_eq_true_eq, Bool.not_eq_true'] at hb1
   exact hb1
  | false =>
  rw [hb1] at g40
  have hb1' : ¬ (¬ (l.map (·.key)).Nodup ∨ l.all rightB = false) := by
   rintro h
   rw [Bool.or_eq_false_iff] at hb1
   rcases h with h | h
   ·have := hb1.1; simp [h] at this
   ·rw [h] at hb1; simp at hb1
  refine w_false (by simp only [wL, Nat.reduceBEq, Bool.not_true, Bool.not_false, g40]) ?_
  refine w_reg fun K hK => ?_; simp (disch := omega) only [↓wD, wU, simprocAttr]; refine hK _ _ ?_; clear hK K
  cases hb2 : l.any fun h => hasK L h.key with
  | true =>
   rw [hb2] at g6
   refine w_true (by simp only [wL, Nat.reduceBEq, Bool.not_true, Bool.not_false, g6]) ?_
   refine w_reg fun K hK => ?_; simp (disch := omega) only [↓wD, wU, simprocAttr]; refine hK _ _ ?_; clear hK K
   refine w_ret ?_
   (with_reducible repeat first | apply q_n | apply q_e | apply q_r | apply bq_n | apply bq_e | apply bq_r | apply bq_o rfl)
   refine bad _ HX 7 hEX ?_ (by decide)
   unfold putE
   rw [if_neg hb1', if_pos hb2]
  | false =>
  rw [hb2] at g6
  refine w_false (by simp only [wL, Nat.reduceBEq, Bool.not_true, Bool.not_false, g6]) ?_
  have hLl : L.length ≤ 60 := hW.le
  refine w_reg fun K hK => ?_; simp (disch := omega) only [↓wD, wU, simprocAttr, g0, g1, hc0]; refine hK _ _ ?_; clear hK K
  by_cases hb3 : 60 < L.length + l.length
  ·have hb3' : ((60 : Int) < ((L.length + l.length : Nat) : Int)) = True := by simp; omega
   refine w_true (by simp only [wL, Nat.reduceBEq, Bool.not_true, Bool.not_false, hb3', decide_true]) ?_
   refine w_reg fun K hK => ?_; simp (disch := omega) only [↓wD, wU, simprocAttr]; refine hK _ _ ?_; clear hK K
   refine w_ret ?_
   (with_reducible repeat first | apply q_n | apply q_e | apply q_r | apply bq_n | apply bq_e | apply bq_r | apply bq_o rfl)
   refine bad _ HX 8 hEX ?_ (by decide)
   unfold putE
   rw [if_neg hb1', if_neg (by rw [hb2]; simp), if_pos hb3]
  have hb3' : ((60 : Int) < ((L.length + l.length : Nat) : Int)) = False := by simp; omega
  refine w_false (by simp only [wL, Nat.reduceBEq, Bool.not_true, Bool.not_false, hb3', decide_false]) ?_
  refine w_skip ?_
  (with_reducible repeat first | apply q_n | apply q_e | apply q_r | apply bq_n | apply bq_e | apply bq_r | apply bq_o rfl)
  have hput : putE L l = 0 := by
   unfold putE
   rw [if_neg hb1', if_neg (by rw [hb2]; simp), if_neg hb3]
  have hnd : (l.map (·.key)).Nodup := Decidable.of_not_not fun h => hb1' (.inl h)
  have hri : ∀ x ∈ l, rightB x = true := by
   have : l.all rightB = true := by
    cases h : l.all rightB with
    | true => rfl
    | false => exact absurd (.inr h) hb1'
   exact List.all_eq_true.1 this
  refine w_seq (w_seq ?_)
  refine w_reg fun K hK => ?_; simp (disch := omega) only [↓wD, wU, simprocAttr, g1]; refine hK _ _ ?_; clear hK K
  refine w_blk (w_loop (fun n f H' => KeepOn (fun x => ¬ M x ∧ x ≠ p) H1 H' ∧ f 0 = .pointer (some ⟨p, 0, none⟩) ∧ f 62 = .slice a l.length c ∧ f 63 = .int .i64 l.length ∧ ∃ (i : Nat), f 64 = .int .i64 i ∧ i ≤ l.length ∧ (∃ L' M' G' v', WF L' ∧ Tab M' G' H' p L' v' ∧ Grown M G M' G' H1.size ∧ (∀ x, x ∈ L' ↔ x ∈ L ∨ x ∈ l.take i) ∧ L'.length = L.length + i) ∧ n = l.length - i) _ ⟨hEX.on _, (by simp only [wL, Nat.reduceBEq, g0]), (by simp only [wL, Nat.reduceBEq]), (by simp only [wL, Nat.reduceBEq]), 0, rfl, Nat.zero_le _, ⟨L, M, G, _, hW, hTX, Grown.refl, by simp, rfl⟩, rfl⟩ ?_)
  rintro n f H' ⟨hKp, f0, f62, f63, i, f64, hi, ⟨L', M', G', v', hW', hT', hGr, hmem, hlen⟩, rfl⟩
  by_cases hil : i < l.length
  ·obtain ⟨b, o, rfl, hSb, cs, hcs, he⟩ := hel i hil
   have htake : l.take (i + 1) = l.take i ++ [l[i]] := by
    rw [List.take_add_one, List.getElem?_eq_getElem hil]; rfl
   have hkeepS : ∀ x, S x → x < H1.size → H'[x]? = H1[x]? := fun x hx hx' => hKp.2 x hx' (hS x hx)
   have hcs' : rdn H' b (o + i * 7) 7 = some cs := by
    refine rdn_block (hkeepS b hSb ?_) hcs
    have h0 := (rdn_spec hcs).2 0 (by omega)
    rw [List.getElem?_eq_getElem (by rw [he.len]; omega)] at h0
    exact cell_lt h0
   have he1 : ElHd S H' cs l[i] := he.mono (fun _ h => h) fun x hx hx' => hkeepS x hx hx'
   have hsm := rightB_small (hri _ (List.getElem_mem hil))
   have he' := he
   obtain ⟨va, vr, ecs, ha, hr, hnm, hsk, hsv⟩ := he'
   obtain ⟨xa, ca, rfl, hca, -⟩ := ha.form
   obtain ⟨xr, cr, rfl, hcr, -⟩ := hr.form
   rw [ecs] at hcs'
   refine w_reg fun K hK => ?_; simp (disch := omega) only [↓wD, wU, simprocAttr, f63, f64, hil]; refine hK _ _ ?_; clear hK K
   refine w_seq ?_
   refine wt ?_
   refine w_skip ?_
   (with_reducible repeat first | apply q_n | apply q_e | apply q_r | apply bq_n | apply bq_e | apply bq_r | apply bq_o rfl)
   refine w_seq (w_blk ?_)
   refine w_reg fun K hK => ?_; simp (disch := omega) only [↓wD, wU, simprocAttr, f62, f64, hil, hcs']; refine hK _ _ ?_; clear hK K
   rw [← ecs]
   have hE0 : Ext H' (H'.push (.cells cs.toArray 35)) := (Ext.refl _).push _
   have hr0 : rdn (H'.push (.cells cs.toArray 35)) H'.size 0 7 = some cs := by
    rw [rdn_new H' cs 35 0 7 (by rw [he.len]; omega), List.drop_zero, List.take_of_length_le (by rw [he.len]; omega)]
   generalize H'.push (.cells cs.toArray 35) = H0 at hE0 hr0 ⊢
   rw [ecs] at hr0
   refine w_reg1 fun K hK => ?_
   simp (disch := omega) only [↓wD, wU, simprocAttr, f0, hr0]
   rw [← ecs]
   have hno : hasK L' l[i].key = false := by
    cases h : hasK L' l[i].key with
    | false => rfl
    | true =>
     obtain ⟨x, hx, hk⟩ := hasK_iff.1 h
     rcases (hmem x).1 hx with h1 | h1
     ·have : l.any (fun h => hasK L h.key) = true := List.any_eq_true.2 ⟨l[i], List.getElem_mem hil, hasK_iff.2 ⟨x, h1, hk⟩⟩
      rw [hb2] at this; cases this
     ·exfalso
      have h2 : ((l.take (i + 1)).map (·.key)).Nodup := hnd.sublist ((List.take_sublist _ _).map _)
      rw [htake, List.map_append, List.nodup_append] at h2
      exact h2.2.2 x.key (List.mem_map.2 ⟨x, h1, rfl⟩) l[i].key (by simp) hk
   refine w_call (lay_cl (hT'.ext hE0) hW'.sorted (by have := hW'.le; omega) (he1.ext hE0) (by omega) (by omega)) ?_
   rintro _ H2 ⟨rfl, hk2, m, M2, G2, v2, hP, hT2, hGr2⟩
   simp (disch := omega) only [↓wD, wU, simprocAttr]
   refine hK _ _ ?_
   clear hK K
   (with_reducible repeat first | apply q_n | apply q_e | apply q_r | apply bq_n | apply bq_e | apply bq_r | apply bq_o rfl)
   refine w_reg1 fun K hK => ?_; simp (disch := omega) only [↓wD, wU, simprocAttr, f64]; refine hK _ _ ?_; clear hK K
   (with_reducible repeat first | apply q_n | apply q_e | apply q_r | apply bq_n | apply bq_e | apply bq_r | apply bq_o rfl)
   have hs01 : H1.size ≤ H0.size := Nat.le_trans hKp.1 hE0.size
   refine ⟨l.length - (i + 1), by omega, ⟨Nat.le_trans hs01 hk2.1, fun x hx hx' => ?_⟩, (by simp only [wL, Nat.reduceBEq, f0]), (by simp only [wL, Nat.reduceBEq, f62]), (by simp only [wL, Nat.reduceBEq, f63]), i + 1, (by simp only [wL, Nat.reduceBEq]), by omega, ⟨_, M2, G2, v2, ⟨ins_sorted hW'.sorted hP hno, ?_, ?_⟩, hT2, hGr.trans hGr2 hs01, ?_, ?_⟩, rfl⟩
   ·rw [hk2.2 x (Nat.lt_of_lt_of_le hx hs01) ⟨fun hm => ?_, hx'.2⟩, hE0.2 x (Nat.lt_of_lt_of_le hx hKp.1), hKp.2 x hx hx']
    rcases hGr.1 x hm with h | h
    ·exact hx'.1 h
    ·omega
   ·have h3 := hP.le
    simp only [List.length_append, List.length_take, List.length_cons, List.length_drop]
    omega
   ·intro x hx
    rcases ins_mem.1 hx with hx | rfl
    ·exact hW'.right x hx
    ·exact hri _ (List.getElem_mem hil)
   ·intro x
    rw [ins_mem, hmem x, htake, List.mem_append, List.mem_singleton]
    exact or_assoc
   ·have h3 := hP.le
    simp only [List.length_append, List.length_take, List.length_cons, List.length_drop]
    omega
  ·refine w_reg fun K hK => ?_; simp (disch := omega) only [↓wD, wU, simprocAttr, f63, f64, hil]; refine hK _ _ ?_; clear hK K
   refine w_seq ?_
   refine wf ?_
   refine w_exit ?_
   (with_reducible repeat first | apply q_n | apply q_e | apply q_r | apply bq_n | apply bq_e | apply bq_r | apply bq_o rfl)
   have hii : i = l.length := by omega
   rw [hii, List.take_length] at hmem
   refine w_reg fun K hK => ?_; simp (disch := omega) only [↓wD, wU, simprocAttr]; refine hK _ _ ?_; clear hK K
   refine w_ret ?_; (with_reducible repeat first | apply q_n | apply q_e | apply q_r | apply bq_n | apply bq_e | apply bq_r | apply bq_o rfl); refine ret1 (by (try simp only [wL, Nat.reduceBEq]); rfl) ?_
   exact ⟨by rw [hput], hKp, L', M', G', v', hW', hT', hGr, fun _ => ⟨hmem, by omega⟩, fun h => absurd hput h⟩
end Go.WK
