/-
  HoldsBytes: for every list of holds and every bytes in memory the function returns true, does not panic and leaves what was there; its condition is the one of its row. Part 8 of 14.
-/
import Derived.Test.YtcafflmhjgnehaaGreatDoorHoldsBytesQ3
import Derived.Test.YtcafflmhjgnehaaGreatDoorHoldsBytesQ5
set_option linter.unusedSimpArgs false
set_option linter.unusedVariables false
set_option linter.defProp false
set_option maxRecDepth 100000
/-
 Things as bytes: writing.
-/
namespace Go.WK
open Go Go.Proofs

def ElB (cs : List Value) (c : UInt8) : Prop := cs = [.int .u8 c.toNat]
def BSl (S : Nat → Prop) (H : Hp) (v : Value) (l : List UInt8) : Prop := SlP S H 1 ElB v l
def ElI (cs : List Value) (n : Int) : Prop := cs = [.int .i64 n] ∧ I64 n
def ISl (S : Nat → Prop) (H : Hp) (v : Value) (l : List Int) : Prop := SlP S H 1 ElI v l
def ElF (cs : List Value) (b : Bool) : Prop := cs = [.bool b]
def FSl (S : Nat → Prop) (H : Hp) (v : Value) (l : List Bool) : Prop := SlP S H 1 ElF v l
abbrev bcs (l : List UInt8) : List (List Value) := l.map fun c => [.int .u8 c.toNat]
/-- Bytes that fit: less than 2^44. -/
abbrev bmax : Nat := 17592186044416
theorem Row.form {M : Nat → Prop} {H : Hp} {k : Nat} {v : Value} {css : List (List Value)} (h : Row M H k v css) : ∃ a c, v = .slice a css.length c := by
 obtain ⟨-, ⟨rfl, rfl⟩ | ⟨b, c, rfl, -⟩⟩ := h
 ·exact ⟨none, 0, rfl⟩
 ·exact ⟨_, c, rfl⟩
theorem bcs_of {l : List UInt8} {css : List (List Value)} (hl : css.length = l.length) (h : ∀ i (hi : i < css.length) (hl : i < l.length), ElB css[i] l[i] ∧ css[i].length = 1) : css = bcs l := by
 apply List.ext_getElem (by simpa using hl)
 intro i h1 h2
 have := (h i h1 (by omega)).1
 simp only [ElB] at this
 simpa using this
theorem bcs_ok {l : List UInt8} : ∀ cs ∈ bcs l, cs.length = 1 ∧ One cs := by
 intro cs hcs
 simp only [List.mem_map] at hcs
 obtain ⟨c, -, rfl⟩ := hcs
 exact ⟨rfl, fun v hv => by simp at hv; subst hv; rfl⟩
/-- A writer: p its block, M its bytes' block. -/
structure Wr (M : Nat → Prop) (H : Hp) (p : Nat) (sp : Bool) (bs : List UInt8) (v : Value) : Prop where
 c0 : cell H p 0 = some (.bool true)
 c1 : cell H p 1 = some (.bool sp)
 c2 : cell H p 2 = some v
 fz : ∀ i, frz H p i = false
 row : Row M H 1 v (bcs bs)
 pM : ¬ M p
 lt : ∀ x, M x → x < H.size
theorem Wr.keep {M : Nat → Prop} {H H' : Hp} {p : Nat} {sp : Bool} {bs : List UInt8} {v : Value} (h : Wr M H p sp bs v) (hs : H.size ≤ H'.size) (hk : ∀ x, M x ∨ x = p → H'[x]? = H[x]?) : Wr M H' p sp bs v :=
 ⟨(cell_block (hk p (.inr rfl)) 0).trans h.c0, (cell_block (hk p (.inr rfl)) 1).trans h.c1, (cell_block (hk p (.inr rfl)) 2).trans h.c2, fun i => (frz_block (hk p (.inr rfl)) i).trans (h.fz i),
  h.row.mono (fun _ h => h) hs fun b hb _ => hk b (.inl hb), h.pM, fun x hx => Nat.lt_of_lt_of_le (h.lt x hx) hs⟩
theorem Wr.ext {M : Nat → Prop} {H H' : Hp} {p : Nat} {sp : Bool} {bs : List UInt8} {v : Value} (h : Wr M H p sp bs v) (hE : Ext H H') : Wr M H' p sp bs v :=
 h.keep hE.1 fun x hx => hE.2 x (hx.elim (h.lt x) fun e => e ▸ cell_lt h.c0)
/-- What a writing leaves: the writer goes on; all else is as it was. -/
def WrP (M : Nat → Prop) (H : Hp) (p : Nat) (sp : Bool) (bs : List UInt8) (H' : Hp) : Prop := KeepOn (fun x => ¬ M x ∧ x ≠ p) H H' ∧ ∃ M' v', Wr M' H' p sp bs v' ∧ ∀ x, M' x → M x ∨ H.size ≤ x
theorem WrP.refl {M : Nat → Prop} {H : Hp} {p : Nat} {sp : Bool} {bs : List UInt8} {v : Value} (h : Wr M H p sp bs v) : WrP M H p sp bs H := ⟨KeepOn.refl _ _, M, v, h, fun _ h => .inl h⟩
/-- One writing behind another one. -/
theorem WrP.trans {M M1 : Nat → Prop} {H H1 H2 : Hp} {p : Nat} {sp' : Bool} {bs' : List UInt8} (hp : p < H.size) (hlt : ∀ x, M x → x < H.size) (hk : KeepOn (fun x => ¬ M x ∧ x ≠ p) H H1) (hM : ∀ x, M1 x → M x ∨ H.size ≤ x) (h : WrP M1 H1 p sp' bs' H2) : WrP M H p sp' bs' H2 := by
 obtain ⟨hk2, M2, v2, hW2, hM2⟩ := h
 refine ⟨⟨Nat.le_trans hk.1 hk2.1, fun b hb hS => ?_⟩, M2, v2, hW2, fun x hx => ?_⟩
 ·rw [hk2.2 b (Nat.lt_of_lt_of_le hb hk.1) ⟨fun hm => (hM b hm).elim hS.1 (by omega), hS.2⟩, hk.2 b hb hS]
 ·rcases hM2 x hx with h | h
  ·exact hM x h
  ·exact .inr (Nat.le_trans hk.1 h)

theorem put_cl {M S : Nat → Prop} {H : Hp} {p : Nat} {sp : Bool} {bs new : List UInt8} {v u : Value} (hW : Wr M H p sp bs v) (hu : BSl S H u new) (hl : bs.length + new.length ≤ 140737488355328) :
  Cl Tryz.prog 120 [.pointer (some ⟨p, 0, none⟩), u] H fun _ H' => WrP M H p sp (bs ++ new) H' := by
 refine cl_of mixed c_wire_written_put (Nat.le_of_ble_eq_true rfl) ?_
 simp only [fwp, ir_wire_written_put, argF, Nat.reduceAdd]
 obtain ⟨css, a2, cap2, hlen, rfl, hsrc, hel⟩ := SlP.rows hu
 obtain rfl := bcs_of hlen hel
 obtain ⟨a, cap, rfl⟩ := hW.row.form
 have c0 := hW.c0
 have c2 := hW.c2
 have hp := cell_lt c0
 refine w_reg fun K hK => ?_; simp (disch := omega) only [↓wD, wU, simprocAttr, c0]; refine hK _ _ ?_; clear hK K
 refine wt ?_
 refine w_reg1 fun K hK => ?_
 simp (disch := omega) only [↓wD, wU, simprocAttr, c2, hsrc]
 refine app_row (z := [.int .u8 0]) hW.row hW.lt bcs_ok rfl (by decide) (by simpa using hl) ?_ rfl
 intro v' H' hrow hk hsz
 have d0 := (cell_block (hk.2 p hp hW.pM) 0).trans c0
 have d1 := (cell_block (hk.2 p hp hW.pM) 1).trans hW.c1
 have d2 := (cell_block (hk.2 p hp hW.pM) 2).trans c2
 have dz : ∀ i, frz H' p i = false := fun i => (frz_block (hk.2 p hp hW.pM) i).trans (hW.fz i)
 obtain ⟨a', cap', rfl⟩ := hrow.form
 simp (disch := omega) only [↓wD, wU, simprocAttr, d2, dz]
 refine hK _ _ ?_
 refine retN rfl ?_
 have hx : KeepOn (fun x => x ≠ p) H' (putc H' p 2 (.slice a' (bcs bs ++ bcs new).length cap')) := ⟨by rw [putc_size]; exact Nat.le_refl _, fun b _ hb => putc_ne hb⟩
 have hpp : ¬ (fun x => (M x ∨ x = H.size) ∧ x < H'.size) p := fun h => h.1.elim hW.pM (by omega)
 refine ⟨⟨Nat.le_trans hk.1 hx.1, fun b hb hS => (hx.2 b (Nat.lt_of_lt_of_le hb hk.1) hS.2).trans (hk.2 b hb hS.1)⟩, fun x => (M x ∨ x = H.size) ∧ x < H'.size, .slice a' (bcs bs ++ bcs new).length cap', ⟨?_, ?_, ?_, ?_, ?_, hpp, ?_⟩, ?_⟩
 ·rw [cell_putc, if_neg (by simp)]; exact d0
 ·rw [cell_putc, if_neg (by simp)]; exact d1
 ·rw [cell_putc, if_pos ⟨rfl, rfl⟩, d2]; rfl
 ·intro i; rw [frz_putc]; exact dz i
 ·have e : bcs (bs ++ new) = bcs bs ++ bcs new := by simp
  rw [e]
  exact hrow.lt.mono (fun _ h => h) hx.1 fun b hb hb' => hx.2 b hb' fun e => by subst e; exact hpp hb
 ·rintro x ⟨-, h⟩; rw [putc_size]; exact h
 ·rintro x ⟨h | h, -⟩
  ·exact .inl h
  ·exact .inr (by omega)

/-- The bytes of a number. -/
def numE (n : Nat) : List UInt8 := if n ≤ 127 then [UInt8.ofNat n] else UInt8.ofNat (n % 128 + 128) :: numE (n / 128)
termination_by n
theorem numE_s {n : Nat} (h : n ≤ 127) : numE n = [UInt8.ofNat n] := by rw [numE, if_pos h]
theorem numE_l {n : Nat} (h : ¬ n ≤ 127) : numE n = UInt8.ofNat (n % 128 + 128) :: numE (n / 128) := by rw [numE, if_neg h]
theorem numE_len : ∀ (k n : Nat), n < 128 ^ (k + 1) → (numE n).length ≤ k + 1
 | 0, n, h => by rw [numE_s (by omega)]; simp
 | k + 1, n, h => by
  by_cases hn : n ≤ 127
  ·rw [numE_s hn]; simp
  ·rw [numE_l hn, List.length_cons]
   have := numE_len k (n / 128) (by rw [Nat.pow_succ] at h; omega)
   omega
theorem numE_len9 {n : Nat} (h : n ≤ 4611686018427387903) : (numE n).length ≤ 9 := by
 refine numE_len 8 n ?_
 have : (128 : Nat) ^ (8 + 1) = 9223372036854775808 := by decide
 rw [this]; omega
theorem or128 : ∀ a : Fin 256, (BitVec.ofInt 8 (a.val : Int) ||| BitVec.ofInt 8 128).toNat = a.val % 128 + 128 := by decide
theorem or128' {a : Nat} (h : a < 256) : IntKind.u8.wrap ((BitVec.ofInt IntKind.u8.bits (a : Int) ||| BitVec.ofInt IntKind.u8.bits 128).toNat : Int) = ((a % 128 + 128 : Nat) : Int) := by
 have := or128 ⟨a, h⟩
 simp only at this
 have e : IntKind.u8.bits = 8 := rfl
 rw [e, this, wr8 (by omega) (by omega)]
theorem w8 (n : Nat) : IntKind.u8.wrap (n : Int) = ((n % 256 : Nat) : Int) := by
 simp [IntKind.wrap, IntKind.signed, IntKind.bits]
theorem shr7 (n : Nat) : ((n : Int).fdiv (2 ^ (min 7 IntKind.i64.bits))) = ((n / 128 : Nat) : Int) := by
 have e : (2 : Int) ^ (min 7 IntKind.i64.bits) = 128 := by decide
 rw [e, Int.fdiv_eq_ediv_of_nonneg _ (by decide)]
 rfl
theorem B_new (H : Hp) (c : UInt8) (t : Nat) : BSl (fun x => x = H.size) (H.push (.cells #[.int .u8 c.toNat] t)) (.slice (some ⟨H.size, 0, none⟩) 1 1) [c] := by
 refine ⟨(by decide : (1 : Nat) ≤ big), .inr ⟨H.size, 0, 1, rfl, Nat.le_refl _, fun i hi => ?_⟩⟩
 have hi0 : i = 0 := by simp at hi; omega
 subst hi0
 exact ⟨rfl, _, rdn_new H [_] t 0 1 (Nat.le_refl _), rfl⟩
theorem u8n {n : Nat} (h : n < 256) : ((UInt8.ofNat n).toNat : Int) = (n : Int) := by
 have : (UInt8.ofNat n).toNat = n := by simp [UInt8.toNat_ofNat]; omega
 rw [this]
/-- Is it a number that can be written? -/
def numOk (x : Int) : Bool := decide (0 ≤ x) && decide (x ≤ 4611686018427387903)
theorem number_cl {M : Nat → Prop} {H : Hp} {p : Nat} {sp : Bool} {bs : List UInt8} {v : Value} {x : Int} (hW : Wr M H p sp bs v) (hx : I64 x) (hl : bs.length + 9 ≤ 140737488355328) :
  Cl Tryz.prog 118 [.pointer (some ⟨p, 0, none⟩), .int .i64 x] H fun _ H' => WrP M H p (sp || !numOk x) (if numOk x then bs ++ numE x.toNat else bs) H' := by
 refine cl_of mixed c_wire_written_number (Nat.le_of_ble_eq_true rfl) ?_
 simp only [fwp, ir_wire_written_number, argF, Nat.reduceAdd]
 obtain ⟨hx1, hx2⟩ := hx
 have hp := cell_lt hW.c0
 refine w_seq (w_seq ?_)
 by_cases h0 : x < 0
 ·refine w_reg fun K hK => ?_; simp (disch := omega) only [↓wD, wU, simprocAttr, h0]; refine hK _ _ ?_; clear hK K
  refine wt ?_
  have e : numOk x = false := by simp only [numOk, Bool.and_eq_false_iff, decide_eq_false_iff_not]; exact .inl (by omega)
  rw [e]
  refine w_reg fun K hK => ?_
  simp (disch := omega) only [↓wD, wU, simprocAttr, hW.c1, hW.fz]
  refine hK _ _ ?_
  clear hK K
  refine w_ret ?_
  (with_reducible repeat first | apply q_n | apply q_e | apply q_r | apply bq_n | apply bq_e | apply bq_r | apply bq_o rfl)
  refine retG rfl ?_
  simp only [Bool.not_false, Bool.or_true, Bool.false_eq_true, if_false]
  refine ⟨⟨by rw [putc_size]; exact Nat.le_refl _, fun b _ hb => putc_ne hb.2⟩, M, v, ⟨?_, ?_, ?_, ?_, ?_, hW.pM, ?_⟩, fun x h => .inl h⟩
  ·rw [cell_putc, if_neg (by simp)]; exact hW.c0
  ·rw [cell_putc, if_pos ⟨rfl, rfl⟩, hW.c1]; rfl
  ·rw [cell_putc, if_neg (by simp)]; exact hW.c2
  ·intro i; rw [frz_putc]; exact hW.fz i
  ·exact hW.row.mono (fun _ h => h) (by rw [putc_size]; exact Nat.le_refl _) fun b hb hb' => putc_ne fun e => hW.pM (e ▸ hb)
  ·intro x hx; rw [putc_size]; exact hW.lt x hx
 by_cases h1 : 4611686018427387903 < x
 ·refine w_reg fun K hK => ?_; simp (disch := omega) only [↓wD, wU, simprocAttr, h0, h1]; refine hK _ _ ?_; clear hK K
  refine wt ?_
  have e : numOk x = false := by simp only [numOk, Bool.and_eq_false_iff, decide_eq_false_iff_not]; exact .inr (by omega)
  rw [e]
  refine w_reg fun K hK => ?_
  simp (disch := omega) only [↓wD, wU, simprocAttr, hW.c1, hW.fz]
  refine hK _ _ ?_
  clear hK K
  refine w_ret ?_
  (with_reducible repeat first | apply q_n | apply q_e | apply q_r | apply bq_n | apply bq_e | apply bq_r | apply bq_o rfl)
  refine retG rfl ?_
  simp only [Bool.not_false, Bool.or_true, Bool.false_eq_true, if_false]
  refine ⟨⟨by rw [putc_size]; exact Nat.le_refl _, fun b _ hb => putc_ne hb.2⟩, M, v, ⟨?_, ?_, ?_, ?_, ?_, hW.pM, ?_⟩, fun x h => .inl h⟩
  ·rw [cell_putc, if_neg (by simp)]; exact hW.c0
  ·rw [cell_putc, if_pos ⟨rfl, rfl⟩, hW.c1]; rfl
  ·rw [cell_putc, if_neg (by simp)]; exact hW.c2
  ·intro i; rw [frz_putc]; exact hW.fz i
  ·exact hW.row.mono (fun _ h => h) (by rw [putc_size]; exact Nat.le_refl _) fun b hb hb' => putc_ne fun e => hW.pM (e ▸ hb)
  ·intro x hx; rw [putc_size]; exact hW.lt x hx
 refine w_reg fun K hK => ?_; simp (disch := omega) only [↓wD, wU, simprocAttr, h0, h1]; refine hK _ _ ?_; clear hK K
 refine wf ?_
 refine w_skip ?_
 (with_reducible repeat first | apply q_n | apply q_e | apply q_r | apply bq_n | apply bq_e | apply bq_r | apply bq_o rfl)
 have e : numOk x = true := by simp only [numOk, Bool.and_eq_true, decide_eq_true_eq]; omega
 rw [e]
 simp only [Bool.not_true, Bool.or_false, if_true]
 obtain ⟨n, rfl⟩ : ∃ n : Nat, x = n := ⟨x.toNat, by omega⟩
 rw [Int.toNat_natCast]
 have hn9 := numE_len9 (n := n) (by omega)
 refine w_cut (fun f H' => f 0 = .pointer (some ⟨p, 0, none⟩) ∧ KeepOn (fun x => ¬ M x ∧ x ≠ p) H H' ∧ ∃ (m : Nat) (bs' : List UInt8) (M' : Nat → Prop) (v' : Value), f 1 = .int .i64 m ∧ m ≤ 127 ∧ Wr M' H' p sp bs' v' ∧ (∀ x, M' x → M x ∨ H.size ≤ x) ∧ bs' ++ numE m = bs ++ numE n) ?_ ?_
 ·refine w_blk (w_loop (fun k f H' => f 0 = .pointer (some ⟨p, 0, none⟩) ∧ KeepOn (fun x => ¬ M x ∧ x ≠ p) H H' ∧ ∃ (m : Nat) (bs' : List UInt8) (M' : Nat → Prop) (v' : Value), f 1 = .int .i64 m ∧ m ≤ 4611686018427387903 ∧ Wr M' H' p sp bs' v' ∧ (∀ x, M' x → M x ∨ H.size ≤ x) ∧ bs' ++ numE m = bs ++ numE n ∧ k = m) n ⟨(by simp only [wL, Nat.reduceBEq]), KeepOn.refl _ _, n, bs, M, v, (by simp only [wL, Nat.reduceBEq]), by omega, hW, fun _ h => .inl h, rfl, rfl⟩ ?_)
  rintro k f H' ⟨f0, hk, m, bs', M', v', f1, hm, hW', hM', he, ek⟩
  subst ek
  refine w_seq (w_seq ?_)
  by_cases hm7 : k ≤ 127
  ·have h127 : ((127 : Int) < (k : Int)) = False := by simp; omega
   refine w_reg fun K hK => ?_; simp (disch := omega) only [↓wD, wU, simprocAttr, f1, h127]; refine hK _ _ ?_; clear hK K
   refine wf ?_
   refine w_exit ?_
   (with_reducible repeat first | apply q_n | apply q_e | apply q_r | apply bq_n | apply bq_e | apply bq_r | apply bq_o rfl)
   exact ⟨(by simp only [wL, Nat.reduceBEq, f0]), hk, k, bs', M', v', (by simp only [wL, Nat.reduceBEq, f1]), hm7, hW', hM', he⟩
  ·have h127 : ((127 : Int) < (k : Int)) = True := by simp; omega
   have h1 : 1 ≤ (numE (k / 128)).length := by
    rw [numE]; split <;> simp
   have hlen : bs'.length + 1 ≤ 140737488355328 := by
    have := congrArg List.length he
    rw [numE_l hm7] at this
    simp only [List.length_append, List.length_cons] at this
    omega
   refine w_reg fun K hK => ?_; simp (disch := omega) only [↓wD, wU, simprocAttr, f1, h127]; refine hK _ _ ?_; clear hK K
   refine wt ?_
   refine w_skip ?_
   (with_reducible repeat first | apply q_n | apply q_e | apply q_r | apply bq_n | apply bq_e | apply bq_r | apply bq_o rfl)
   refine w_seq (w_blk ?_)
   refine w_reg1 fun K hK => ?_
   simp (disch := omega) only [↓wD, wU, simprocAttr, f0, f1, w8, or128' (Nat.mod_lt k (by decide : 256 > 0))]
   have hb8 : k % 256 % 128 + 128 < 256 := by omega
   rw [← u8n hb8]
   have hW1 := hW'.ext ((Ext.refl H').push (.cells #[.int .u8 ((UInt8.ofNat (k % 256 % 128 + 128)).toNat)] 5))
   refine w_call (put_cl hW1 (B_new H' (UInt8.ofNat (k % 256 % 128 + 128)) 5) hlen) ?_
   rintro _ H2 ⟨hk2, M2, v2, hW2, hM2⟩
   simp (disch := omega) only [↓wD, wU, simprocAttr]
   refine hK _ _ ?_
   (with_reducible repeat first | apply q_n | apply q_e | apply q_r | apply bq_n | apply bq_e | apply bq_r | apply bq_o rfl)
   refine w_reg1 fun K hK => ?_; simp (disch := omega) only [↓wD, wU, simprocAttr, f1, shr7]; refine hK _ _ ?_; clear hK K
   (with_reducible repeat first | apply q_n | apply q_e | apply q_r | apply bq_n | apply bq_e | apply bq_r | apply bq_o rfl)
   have hs := hk.1
   have hp' := Nat.lt_of_lt_of_le hp hs
   refine ⟨k / 128, by omega, (by simp only [wL, Nat.reduceBEq, f0]), ⟨?_, ?_⟩, k / 128, bs' ++ [UInt8.ofNat (k % 256 % 128 + 128)], M2, v2, (by simp only [wL, Nat.reduceBEq]), by omega, hW2, ?_, ?_, rfl⟩
   ·have := hk2.1; simp at this; omega
   ·intro b hb hS
    rw [hk2.2 b (by simp; omega) ⟨fun hm => (hM' b hm).elim hS.1 (by omega), hS.2⟩, Array.getElem?_push, if_neg (by omega), hk.2 b hb hS]
   ·intro y hy
    rcases hM2 y hy with h | h
    ·exact hM' y h
    ·exact .inr (by simp at h; omega)
   ·rw [← he, numE_l hm7, List.append_assoc]
    have : k % 256 % 128 = k % 128 := by omega
    rw [this]; rfl
 ·rintro f H' ⟨f0, hk, m, bs', M', v', f1, hm, hW', hM', he⟩
  have hlen : bs'.length + 1 ≤ 140737488355328 := by
   have := congrArg List.length he
   rw [numE_s hm] at this
   simp only [List.length_append, List.length_cons, List.length_nil] at this
   omega
  refine w_reg1 fun K hK => ?_
  simp (disch := omega) only [↓wD, wU, simprocAttr, f0, f1, w8]
  have hb8 : m % 256 < 256 := by omega
  rw [← u8n hb8]
  have hW1 := hW'.ext ((Ext.refl H').push (.cells #[.int .u8 ((UInt8.ofNat (m % 256)).toNat)] 5))
  refine w_call (put_cl hW1 (B_new H' (UInt8.ofNat (m % 256)) 5) hlen) ?_
  rintro _ H2 ⟨hk2, M2, v2, hW2, hM2⟩
  simp (disch := omega) only [↓wD, wU, simprocAttr]
  refine hK _ _ ?_
  refine retN rfl ?_
  have hs := hk.1
  refine ⟨⟨?_, ?_⟩, M2, v2, ?_, ?_⟩
  ·have := hk2.1; simp at this; omega
  ·intro b hb hS
   rw [hk2.2 b (by simp; omega) ⟨fun hm => (hM' b hm).elim hS.1 (by omega), hS.2⟩, Array.getElem?_push, if_neg (by omega), hk.2 b hb hS]
  ·rw [← he, numE_s hm]
   have : m % 256 = m := by omega
   rw [this] at hW2; exact hW2
  ·intro y hy
   rcases hM2 y hy with h | h
   ·exact hM' y h
   ·exact .inr (by simp at h; omega)
end Go.WK
/-
 Things as bytes: writing rows of things.
-/
namespace Go.WK
open Go Go.Proofs

def numsE (l : List Int) : List UInt8 := (l.filter numOk).flatMap fun x => numE x.toNat
def flagE (b : Bool) : UInt8 := if b then 1 else 0
def rowE (l : List UInt8) : List UInt8 := numE l.length ++ l
def textE (s : ByteArray) : List UInt8 := rowE s.data.toList
theorem numsE_snoc (l : List Int) (x : Int) : numsE (l ++ [x]) = numsE l ++ if numOk x then numE x.toNat else [] := by
 simp only [numsE, List.filter_append, List.flatMap_append]
 cases h : numOk x <;> simp [h]
theorem numOk_le {x : Int} (h : numOk x = true) : x.toNat ≤ 4611686018427387903 := by
 simp only [numOk, Bool.and_eq_true, decide_eq_true_eq] at h; omega
theorem numsE_len : ∀ l : List Int, (numsE l).length ≤ 9 * l.length
 | [] => by simp [numsE]
 | x :: l => by
  have ih := numsE_len l
  simp only [numsE, List.filter_cons] at ih ⊢
  cases h : numOk x with
  | false => simp only [Bool.false_eq_true, if_false, List.length_cons]; omega
  | true =>
   have := numE_len9 (numOk_le h)
   simp only [if_true, List.flatMap_cons, List.length_append, List.length_cons]; omega
theorem rowE_len (l : List UInt8) (h : l.length ≤ 4611686018427387903) : (rowE l).length ≤ l.length + 9 := by
 have := numE_len9 h
 simp only [rowE, List.length_append]; omega
theorem known_cl {M : Nat → Prop} {H : Hp} {p : Nat} {sp : Bool} {bs : List UInt8} {v : Value} (hW : Wr M H p sp bs v) : Cl Tryz.prog 66 [.pointer (some ⟨p, 0, none⟩)] H fun r H' => r = .bool true ∧ H' = H := by
 refine cl_of mixed c_wire_Writer_known (Nat.le_of_ble_eq_true rfl) ?_
 simp only [fwp, ir_wire_Writer_known, argF, Nat.reduceAdd]
 refine w_reg fun K hK => ?_; simp (disch := omega) only [↓wD, wU, simprocAttr]; refine hK _ _ ?_; clear hK K
 refine w_reg fun K hK => ?_
 simp (disch := omega) only [↓wD, wU, simprocAttr, hW.c0]
 refine hK _ _ ?_
 clear hK K
 refine w_ret ?_; (with_reducible repeat first | apply q_n | apply q_e | apply q_r | apply bq_n | apply bq_e | apply bq_r | apply bq_o rfl); refine ret1 (by (try simp only [wL, Nat.reduceBEq]); rfl) ?_
 exact ⟨rfl, rfl⟩
theorem Numbers_cl {M S : Nat → Prop} {H : Hp} {p : Nat} {sp : Bool} {bs : List UInt8} {v u : Value} {l : List Int} (hW : Wr M H p sp bs v) (hu : ISl S H u l) (hS : ∀ x, S x → ¬ M x ∧ x ≠ p) (hl : bs.length + 9 * l.length + 9 ≤ 140737488355328) :
  Cl Tryz.prog 63 [.pointer (some ⟨p, 0, none⟩), u] H fun r H' => r = .pointer (some ⟨p, 0, none⟩) ∧ WrP M H p (sp || !l.all numOk) (bs ++ numsE l) H' := by
 refine cl_of mixed c_wire_Writer_Numbers (Nat.le_of_ble_eq_true rfl) ?_
 simp only [fwp, ir_wire_Writer_Numbers, argF, Nat.reduceAdd]
 obtain ⟨a, c, rfl, hc, hll, hel⟩ := SlP.open hu
 have hp := cell_lt hW.c0
 refine w_reg fun K hK => ?_; simp (disch := omega) only [↓wD, wU, simprocAttr]; refine hK _ _ ?_; clear hK K
 refine w_seq (w_seq ?_)
 refine w_reg fun K hK => ?_
 simp (disch := omega) only [↓wD, wU, simprocAttr]
 refine w_call (known_cl hW) ?_
 rintro _ H ⟨rfl, rfl⟩
 simp (disch := omega) only [↓wD, wU, simprocAttr]
 refine hK _ _ ?_
 clear hK K
 refine wt ?_
 refine w_reg fun K hK => ?_; simp (disch := omega) only [↓wD, wU, simprocAttr]; refine hK _ _ ?_; clear hK K
 refine w_blk (w_loop (fun n' f H' => f 0 = .pointer (some ⟨p, 0, none⟩) ∧ f 9 = .slice a l.length c ∧ f 10 = .int .i64 l.length ∧ KeepOn (fun x => ¬ M x ∧ x ≠ p) H H' ∧ (∃ M' v', Wr M' H' p (sp || !l.all numOk) (bs ++ numsE l) v' ∧ ∀ x, M' x → M x ∨ H.size ≤ x) = (∃ M' v', Wr M' H' p (sp || !l.all numOk) (bs ++ numsE l) v' ∧ ∀ x, M' x → M x ∨ H.size ≤ x) ∧ ∃ (i : Nat) (M' : Nat → Prop) (v' : Value), f 11 = .int .i64 i ∧ i ≤ l.length ∧ n' = l.length - i ∧ Wr M' H' p (sp || !(l.take i).all numOk) (bs ++ numsE (l.take i)) v' ∧ ∀ x, M' x → M x ∨ H.size ≤ x) l.length ⟨(by simp only [wL, Nat.reduceBEq]), (by simp only [wL, Nat.reduceBEq]), (by simp only [wL, Nat.reduceBEq]), KeepOn.refl _ _, rfl, 0, M, v, (by simp only [wL, Nat.reduceBEq]; rfl), Nat.zero_le _, rfl, by simpa [numsE] using hW, fun _ h => .inl h⟩ ?_)
 rintro n' f H' ⟨f0, f9, f10, hk, -, i, M', v', f11, hi, rfl, hW', hM'⟩
 by_cases hil : i < l.length
 ·obtain ⟨b, o, rfl, hSb, cs, hcs, rfl, hx⟩ := hel i hil
  have hb := cell_lt (rdn1 hcs)
  have hcs' := rdn1 (rdn_block (hk.2 b hb (hS b hSb)) hcs)
  have htake : l.take (i + 1) = l.take i ++ [l[i]] := by
   rw [List.take_add_one, List.getElem?_eq_getElem hil]; rfl
  refine w_reg fun K hK => ?_; simp (disch := omega) only [↓wD, wU, simprocAttr, f10, f11, hil]; refine hK _ _ ?_; clear hK K
  refine w_seq ?_
  refine wt ?_
  refine w_skip ?_
  (with_reducible repeat first | apply q_n | apply q_e | apply q_r | apply bq_n | apply bq_e | apply bq_r | apply bq_o rfl)
  refine w_seq (w_blk ?_)
  refine w_reg fun K hK => ?_; simp (disch := omega) only [↓wD, wU, simprocAttr, f9, f11, hil, hcs']; refine hK _ _ ?_; clear hK K
  refine w_reg1 fun K hK => ?_
  simp (disch := omega) only [↓wD, wU, simprocAttr, f0]
  have hle : (bs ++ numsE (l.take i)).length + 9 ≤ 140737488355328 := by
   have := numsE_len (l.take i)
   rw [List.length_take] at this
   simp only [List.length_append]; omega
  refine w_call (number_cl hW' hx hle) ?_
  rintro _ H2 ⟨hk2, M2, v2, hW2, hM2⟩
  simp (disch := omega) only [↓wD, wU, simprocAttr]
  refine hK _ _ ?_
  (with_reducible repeat first | apply q_n | apply q_e | apply q_r | apply bq_n | apply bq_e | apply bq_r | apply bq_o rfl)
  refine w_reg1 fun K hK => ?_; simp (disch := omega) only [↓wD, wU, simprocAttr, f11]; refine hK _ _ ?_; clear hK K
  (with_reducible repeat first | apply q_n | apply q_e | apply q_r | apply bq_n | apply bq_e | apply bq_r | apply bq_o rfl)
  have hs := hk.1
  refine ⟨l.length - (i + 1), by omega, (by simp only [wL, Nat.reduceBEq, f0]), (by simp only [wL, Nat.reduceBEq, f9]), (by simp only [wL, Nat.reduceBEq, f10]), ⟨Nat.le_trans hk.1 hk2.1, fun b hb hS => ?_⟩, rfl, i + 1, M2, v2, (by simp only [wL, Nat.reduceBEq]), by omega, rfl, ?_, fun y hy => ?_⟩
  ·rw [hk2.2 b (Nat.lt_of_lt_of_le hb hk.1) ⟨fun hm => (hM' b hm).elim hS.1 (by omega), hS.2⟩, hk.2 b hb hS]
  ·have e1 : (sp || !(l.take (i + 1)).all numOk) = (sp || !(l.take i).all numOk || !numOk l[i]) := by
    rw [htake, List.all_append, List.all_cons, List.all_nil, Bool.and_true, Bool.not_and, Bool.or_assoc]
   have e2 : bs ++ numsE (l.take (i + 1)) = if numOk l[i] = true then bs ++ numsE (l.take i) ++ numE l[i].toNat else bs ++ numsE (l.take i) := by
    rw [htake, numsE_snoc]; split <;> simp
   rw [e1, e2]; exact hW2
  ·rcases hM2 y hy with h | h
   ·exact hM' y h
   ·exact .inr (by omega)
 ·refine w_reg fun K hK => ?_; simp (disch := omega) only [↓wD, wU, simprocAttr, f10, f11, hil]; refine hK _ _ ?_; clear hK K
  refine w_seq ?_
  refine wf ?_
  refine w_exit ?_
  (with_reducible repeat first | apply q_n | apply q_e | apply q_r | apply bq_n | apply bq_e | apply bq_r | apply bq_o rfl)
  have hfull : l.take i = l := List.take_of_length_le (by omega)
  rw [hfull] at hW'
  refine w_reg fun K hK => ?_; simp (disch := omega) only [↓wD, wU, simprocAttr, f0]; refine hK _ _ ?_; clear hK K
  refine w_ret ?_; (with_reducible repeat first | apply q_n | apply q_e | apply q_r | apply bq_n | apply bq_e | apply bq_r | apply bq_o rfl); refine ret1 (by (try simp only [wL, Nat.reduceBEq]); rfl) ?_
  exact ⟨rfl, hk, M', v', hW', hM'⟩
theorem Flags_cl {M S : Nat → Prop} {H : Hp} {p : Nat} {sp : Bool} {bs : List UInt8} {v u : Value} {l : List Bool} (hW : Wr M H p sp bs v) (hu : FSl S H u l) (hS : ∀ x, S x → ¬ M x ∧ x ≠ p) (hl : bs.length + l.length ≤ 140737488355328) :
  Cl Tryz.prog 65 [.pointer (some ⟨p, 0, none⟩), u] H fun r H' => r = .pointer (some ⟨p, 0, none⟩) ∧ WrP M H p sp (bs ++ l.map flagE) H' := by
 refine cl_of mixed c_wire_Writer_Flags (Nat.le_of_ble_eq_true rfl) ?_
 simp only [fwp, ir_wire_Writer_Flags, argF, Nat.reduceAdd]
 obtain ⟨a, c, rfl, hc, hll, hel⟩ := SlP.open hu
 have hp := cell_lt hW.c0
 refine w_reg fun K hK => ?_; simp (disch := omega) only [↓wD, wU, simprocAttr]; refine hK _ _ ?_; clear hK K
 refine w_seq (w_seq ?_)
 refine w_reg fun K hK => ?_
 simp (disch := omega) only [↓wD, wU, simprocAttr]
 refine w_call (known_cl hW) ?_
 rintro _ H ⟨rfl, rfl⟩
 simp (disch := omega) only [↓wD, wU, simprocAttr]
 refine hK _ _ ?_
 clear hK K
 refine wt ?_
 refine w_reg fun K hK => ?_; simp (disch := omega) only [↓wD, wU, simprocAttr]; refine hK _ _ ?_; clear hK K
 refine w_blk (w_loop (fun n' f H' => f 0 = .pointer (some ⟨p, 0, none⟩) ∧ f 9 = .slice a l.length c ∧ f 10 = .int .i64 l.length ∧ KeepOn (fun x => ¬ M x ∧ x ≠ p) H H' ∧ ∃ (i : Nat) (M' : Nat → Prop) (v' : Value), f 11 = .int .i64 i ∧ i ≤ l.length ∧ n' = l.length - i ∧ Wr M' H' p sp (bs ++ (l.take i).map flagE) v' ∧ ∀ x, M' x → M x ∨ H.size ≤ x) l.length ⟨(by simp only [wL, Nat.reduceBEq]), (by simp only [wL, Nat.reduceBEq]), (by simp only [wL, Nat.reduceBEq]), KeepOn.refl _ _, 0, M, v, (by simp only [wL, Nat.reduceBEq]; rfl), Nat.zero_le _, rfl, by simpa using hW, fun _ h => .inl h⟩ ?_)
 rintro n' f H' ⟨f0, f9, f10, hk, i, M', v', f11, hi, rfl, hW', hM'⟩
 by_cases hil : i < l.length
 ·obtain ⟨b, o, rfl, hSb, cs, hcs, rfl⟩ := hel i hil
  have hb := cell_lt (rdn1 hcs)
  have hcs' := rdn1 (rdn_block (hk.2 b hb (hS b hSb)) hcs)
  have htake : l.take (i + 1) = l.take i ++ [l[i]] := by
   rw [List.take_add_one, List.getElem?_eq_getElem hil]; rfl
  refine w_reg fun K hK => ?_; simp (disch := omega) only [↓wD, wU, simprocAttr, f10, f11, hil]; refine hK _ _ ?_; clear hK K
  refine w_seq ?_
  refine wt ?_
  refine w_skip ?_
  (with_reducible repeat first | apply q_n | apply q_e | apply q_r | apply bq_n | apply bq_e | apply bq_r | apply bq_o rfl)
  refine w_seq (w_blk ?_)
  refine w_reg fun K hK => ?_; simp (disch := omega) only [↓wD, wU, simprocAttr, f9, f11, hil, hcs']; refine hK _ _ ?_; clear hK K
  have hle : (bs ++ (l.take i).map flagE).length + 1 ≤ 140737488355328 := by
   simp only [List.length_append, List.length_map, List.length_take]; omega
  have hs := hk.1
  refine w_reg fun K hK => ?_; simp (disch := omega) only [↓wD, wU, simprocAttr]; refine hK _ _ ?_; clear hK K
  refine w_meet (fun g H2 => g 0 = .pointer (some ⟨p, 0, none⟩) ∧ g 9 = .slice (some ⟨b, o, none⟩) l.length c ∧ g 10 = .int .i64 l.length ∧ g 11 = .int .i64 i ∧ KeepOn (fun x => ¬ M x ∧ x ≠ p) H H2 ∧ ∃ M2 v2, Wr M2 H2 p sp (bs ++ (l.take (i + 1)).map flagE) v2 ∧ ∀ x, M2 x → M x ∨ H.size ≤ x) ?_ ?_
  ·have fin : ∀ (w : UInt8) (H2 : Hp), w = flagE l[i] → WrP M' (H'.push (.cells #[.int .u8 w.toNat] 5)) p sp ((bs ++ (l.take i).map flagE) ++ [w]) H2 → KeepOn (fun x => ¬ M x ∧ x ≠ p) H H2 ∧ ∃ M2 v2, Wr M2 H2 p sp (bs ++ (l.take (i + 1)).map flagE) v2 ∧ ∀ x, M2 x → M x ∨ H.size ≤ x := by
    rintro w H2 rfl ⟨hk2, M2, v2, hW2, hM2⟩
    refine ⟨⟨?_, ?_⟩, M2, v2, ?_, ?_⟩
    ·have := hk2.1; simp at this; omega
    ·intro b hb hS
     rw [hk2.2 b (by simp; omega) ⟨fun hm => (hM' b hm).elim hS.1 (by omega), hS.2⟩, Array.getElem?_push, if_neg (by omega), hk.2 b hb hS]
    ·rw [htake, List.map_append, ← List.append_assoc]; exact hW2
    ·intro y hy
     rcases hM2 y hy with h | h
     ·exact hM' y h
     ·exact .inr (by simp at h; omega)
   cases hv : l[i] with
   | true =>
    refine w_true (by simp only [wL, Nat.reduceBEq, Bool.not_true, Bool.not_false, hv]) ?_
    refine w_reg1 fun K hK => ?_
    simp (disch := omega) only [↓wD, wU, simprocAttr, f0]
    refine w_call (put_cl (hW'.ext ((Ext.refl H').push (.cells #[.int .u8 ((1 : UInt8).toNat)] 5))) (B_new H' 1 5) hle) ?_
    rintro _ H2 hP
    simp (disch := omega) only [↓wD, wU, simprocAttr]
    refine hK _ _ ?_
    (with_reducible repeat first | apply q_n | apply q_e | apply q_r | apply bq_n | apply bq_e | apply bq_r | apply bq_o rfl)
    obtain ⟨q1, q2⟩ := fin 1 H2 (by rw [hv]; rfl) hP
    exact ⟨(by simp only [wL, Nat.reduceBEq, f0]), (by simp only [wL, Nat.reduceBEq, f9]), (by simp only [wL, Nat.reduceBEq, f10]), (by simp only [wL, Nat.reduceBEq, f11]), q1, q2⟩
   | false =>
    refine w_false (by simp only [wL, Nat.reduceBEq, Bool.not_true, Bool.not_false, hv]) ?_
    refine w_reg1 fun K hK => ?_
    simp (disch := omega) only [↓wD, wU, simprocAttr, f0]
    refine w_call (put_cl (hW'.ext ((Ext.refl H').push (.cells #[.int .u8 ((0 : UInt8).toNat)] 5))) (B_new H' 0 5) hle) ?_
    rintro _ H2 hP
    simp (disch := omega) only [↓wD, wU, simprocAttr]
    refine hK _ _ ?_
    (with_reducible repeat first | apply q_n | apply q_e | apply q_r | apply bq_n | apply bq_e | apply bq_r | apply bq_o rfl)
    obtain ⟨q1, q2⟩ := fin 0 H2 (by rw [hv]; rfl) hP
    exact ⟨(by simp only [wL, Nat.reduceBEq, f0]), (by simp only [wL, Nat.reduceBEq, f9]), (by simp only [wL, Nat.reduceBEq, f10]), (by simp only [wL, Nat.reduceBEq, f11]), q1, q2⟩
  rintro g H2 ⟨g0, g9, g10, g11, hk2, M2, v2, hW2, hM2⟩
  (with_reducible repeat first | apply q_n | apply q_e | apply q_r | apply bq_n | apply bq_e | apply bq_r | apply bq_o rfl)
  refine w_reg1 fun K hK => ?_; simp (disch := omega) only [↓wD, wU, simprocAttr, g11]; refine hK _ _ ?_; clear hK K
  (with_reducible repeat first | apply q_n | apply q_e | apply q_r | apply bq_n | apply bq_e | apply bq_r | apply bq_o rfl)
  exact ⟨l.length - (i + 1), by omega, (by simp only [wL, Nat.reduceBEq, g0]), (by simp only [wL, Nat.reduceBEq, g9]), (by simp only [wL, Nat.reduceBEq, g10]), hk2, i + 1, M2, v2, (by simp only [wL, Nat.reduceBEq]), by omega, rfl, hW2, hM2⟩
 ·refine w_reg fun K hK => ?_; simp (disch := omega) only [↓wD, wU, simprocAttr, f10, f11, hil]; refine hK _ _ ?_; clear hK K
  refine w_seq ?_
  refine wf ?_
  refine w_exit ?_
  (with_reducible repeat first | apply q_n | apply q_e | apply q_r | apply bq_n | apply bq_e | apply bq_r | apply bq_o rfl)
  have hfull : l.take i = l := List.take_of_length_le (by omega)
  rw [hfull] at hW'
  refine w_reg fun K hK => ?_; simp (disch := omega) only [↓wD, wU, simprocAttr, f0]; refine hK _ _ ?_; clear hK K
  refine w_ret ?_; (with_reducible repeat first | apply q_n | apply q_e | apply q_r | apply bq_n | apply bq_e | apply bq_r | apply bq_o rfl); refine ret1 (by (try simp only [wL, Nat.reduceBEq]); rfl) ?_
  exact ⟨rfl, hk, M', v', hW', hM'⟩

/-- Rows of bytes, in a row. -/
def ElRow (S : Nat → Prop) (H : Hp) (cs : List Value) (l : List UInt8) : Prop := ∃ v, cs = [v] ∧ BSl S H v l
theorem Rows1_cl {M S : Nat → Prop} {H : Hp} {p b : Nat} {sp : Bool} {bs l : List UInt8} {v u : Value} (hW : Wr M H p sp bs v) (hb : cell H b 0 = some u) (hbM : ¬ M b ∧ b ≠ p) (hu : BSl S H u l) (hS : ∀ x, S x → ¬ M x ∧ x ≠ p) (hl : bs.length + l.length + 9 ≤ 140737488355328) :
  Cl Tryz.prog 119 [.pointer (some ⟨p, 0, none⟩), .slice (some ⟨b, 0, none⟩) 1 1] H fun r H' => r = .pointer (some ⟨p, 0, none⟩) ∧ WrP M H p sp (bs ++ rowE l) H' := by
 refine cl_of mixed c_wire_Writer_Rows (Nat.le_of_ble_eq_true rfl) ?_
 simp only [fwp, ir_wire_Writer_Rows, argF, Nat.reduceAdd]
 have hp := cell_lt hW.c0
 have hbl := cell_lt hb
 have huu := hu
 obtain ⟨ua, uc, rfl, huc, hul, -⟩ := SlP.open huu
 refine w_reg fun K hK => ?_; simp (disch := omega) only [↓wD, wU, simprocAttr]; refine hK _ _ ?_; clear hK K
 refine w_seq (w_seq ?_)
 refine w_reg fun K hK => ?_
 simp (disch := omega) only [↓wD, wU, simprocAttr]
 refine w_call (known_cl hW) ?_
 rintro _ H ⟨rfl, rfl⟩
 simp (disch := omega) only [↓wD, wU, simprocAttr]
 refine hK _ _ ?_
 clear hK K
 refine wt ?_
 refine w_reg fun K hK => ?_; simp (disch := omega) only [↓wD, wU, simprocAttr]; refine hK _ _ ?_; clear hK K
 have h01 : ((0 : Int) < ((1 : Nat) : Int)) = True := by simp
 have h01i : ((0 : Int) < 1) = True := by simp
 have h11 : ((1 : Int) < ((1 : Nat) : Int)) = False := by simp
 have t0 : (0 : Int).toNat = 0 := rfl
 refine w_blk (w_loop (fun n' f H' => f 0 = .pointer (some ⟨p, 0, none⟩) ∧ f 9 = .slice (some ⟨b, 0, none⟩) 1 1 ∧ f 10 = .int .i64 (1 : Nat) ∧ ((f 11 = .int .i64 0 ∧ n' = 1 ∧ H' = H) ∨ (f 11 = .int .i64 1 ∧ n' = 0 ∧ WrP M H p sp (bs ++ rowE l) H'))) 1 ⟨(by simp only [wL, Nat.reduceBEq]), (by simp only [wL, Nat.reduceBEq]), (by simp only [wL, Nat.reduceBEq]; rfl), .inl ⟨(by simp only [wL, Nat.reduceBEq]), rfl, rfl⟩⟩ ?_)
 rintro n' f H' ⟨f0, f9, f10, ⟨f11, rfl, rfl⟩ | ⟨f11, rfl, hP⟩⟩
 ·refine w_reg fun K hK => ?_; simp (disch := omega) only [↓wD, wU, simprocAttr, f10, f11, h01]; refine hK _ _ ?_; clear hK K
  refine w_seq ?_
  refine wt ?_
  refine w_skip ?_
  (with_reducible repeat first | apply q_n | apply q_e | apply q_r | apply bq_n | apply bq_e | apply bq_r | apply bq_o rfl)
  refine w_seq (w_blk ?_)
  refine w_reg fun K hK => ?_; simp (disch := omega) only [↓wD, wU, simprocAttr, f9, f11, h01, h01i, hb, t0, Nat.zero_lt_one]; refine hK _ _ ?_; clear hK K
  have e : numOk ((l.length : Nat) : Int) = true := by simp only [numOk, Bool.and_eq_true, decide_eq_true_eq]; omega
  have n1 := number_cl hW (x := ((l.length : Nat) : Int)) ⟨by omega, by omega⟩ (by omega)
  rw [e] at n1
  simp only [Bool.not_true, Bool.or_false, if_true, Int.toNat_natCast] at n1
  have hlen9 := numE_len9 (n := l.length) (by omega)
  refine w_reg fun K hK => ?_
  simp (disch := omega) only [↓wD, wU, simprocAttr, f0]
  refine w_call (n1) ?_
  rintro _ H2 ⟨hk2, M2, v2, hW2, hM2⟩
  simp (disch := omega) only [↓wD, wU, simprocAttr]
  refine hK _ _ ?_
  clear hK K
  have hu2 : BSl S H2 _ l := SlP.mono hu (fun _ h => h) (fun x hx hx' => hk2.2 x hx' (hS x hx)) fun _ _ _ h => h
  refine w_reg1 fun K hK => ?_
  simp (disch := omega) only [↓wD, wU, simprocAttr, f0]
  refine w_call (put_cl hW2 hu2 (by simp only [List.length_append]; omega)) ?_
  rintro _ H3 hP
  simp (disch := omega) only [↓wD, wU, simprocAttr]
  refine hK _ _ ?_
  (with_reducible repeat first | apply q_n | apply q_e | apply q_r | apply bq_n | apply bq_e | apply bq_r | apply bq_o rfl)
  have hw1 : IntKind.i64.wrap (0 + 1) = 1 := by rw [wr64 (by omega) (by omega)]; rfl
  refine w_reg1 fun K hK => ?_; simp (disch := omega) only [↓wD, wU, simprocAttr, f11, hw1]; refine hK _ _ ?_; clear hK K
  (with_reducible repeat first | apply q_n | apply q_e | apply q_r | apply bq_n | apply bq_e | apply bq_r | apply bq_o rfl)
  refine ⟨0, by omega, (by simp only [wL, Nat.reduceBEq, f0]), (by simp only [wL, Nat.reduceBEq, f9]), (by simp only [wL, Nat.reduceBEq, f10]), .inr ⟨(by simp only [wL, Nat.reduceBEq]), rfl, ?_⟩⟩
  have := WrP.trans hp hW.lt hk2 hM2 hP
  rw [List.append_assoc] at this
  exact this
 ·refine w_reg fun K hK => ?_; simp (disch := omega) only [↓wD, wU, simprocAttr, f10, f11, h11]; refine hK _ _ ?_; clear hK K
  refine w_seq ?_
  refine wf ?_
  refine w_exit ?_
  (with_reducible repeat first | apply q_n | apply q_e | apply q_r | apply bq_n | apply bq_e | apply bq_r | apply bq_o rfl)
  refine w_reg fun K hK => ?_; simp (disch := omega) only [↓wD, wU, simprocAttr, f0]; refine hK _ _ ?_; clear hK K
  refine w_ret ?_; (with_reducible repeat first | apply q_n | apply q_e | apply q_r | apply bq_n | apply bq_e | apply bq_r | apply bq_o rfl); refine ret1 (by (try simp only [wL, Nat.reduceBEq]); rfl) ?_
  exact ⟨rfl, hP⟩

theorem textsE_snoc (l : List ByteArray) (x : ByteArray) : (l ++ [x]).flatMap textE = l.flatMap textE ++ textE x := by simp
def szs (l : List ByteArray) : Nat := (l.map fun s => s.size + 9).sum
theorem textE_len (s : ByteArray) (h : Sz s) : (textE s).length ≤ s.size + 9 := by
 have e : s.data.toList.length = s.size := rfl
 have h' : s.size ≤ 140737488355328 := h
 have := rowE_len s.data.toList (by rw [e]; omega)
 rw [e] at this; exact this
theorem szs_take {l : List ByteArray} (h : ∀ s ∈ l, Sz s) : ∀ i, ((l.take i).flatMap textE).length ≤ szs (l.take i) := by
 induction l with
 | nil => intro i; simp [szs]
 | cons a l ih =>
  intro i
  cases i with
  | zero => simp [szs]
  | succ i =>
   have h1 := textE_len a (h a (by simp))
   have h2 := ih (fun s hs => h s (by simp [hs])) i
   simp only [List.take_succ_cons, List.flatMap_cons, List.length_append, szs, List.map_cons, List.sum_cons] at h2 ⊢
   omega
theorem szs_le {l : List ByteArray} : ∀ i (hi : i < l.length), szs (l.take i) + (l[i].size + 9) ≤ szs l := by
 induction l with
 | nil => intro i hi; simp at hi
 | cons a l ih =>
  intro i hi
  cases i with
  | zero => simp [szs]
  | succ i =>
   have := ih i (by simpa using hi)
   simp only [List.take_succ_cons, szs, List.map_cons, List.sum_cons, List.getElem_cons_succ] at this ⊢
   omega
theorem csb_block {H : Hp} {t c : Nat} {s : ByteArray} (hc : s.size ≤ c) : BSl (fun x => x = H.size) (H.push (.cells (cellsOfBytes s.data.toList ++ List.replicate (c - s.size) (Value.int .u8 0)).toArray t (c, c + 1))) (.slice (some ⟨H.size, 0, none⟩) s.size c) s.data.toList ∨ ¬ s.size ≤ big := by
 by_cases hb : s.size ≤ big
 ·refine .inl ⟨hb, .inr ⟨H.size, 0, c, rfl, hc, fun i hi => ⟨rfl, [.int .u8 (s.data.toList[i]).toNat], ?_, rfl⟩⟩⟩
  refine rdn_of rfl fun j hj => ?_
  have hj0 : j = 0 := by omega
  subst hj0
  simp only [cell, Array.getElem?_push, if_true, Nat.zero_add, Nat.mul_one, Nat.add_zero, List.getElem?_toArray, List.getElem?_cons_zero]
  rw [List.getElem?_append_left (by simp [cellsOfBytes]; exact hi)]
  simp [cellsOfBytes, List.getElem?_eq_getElem hi]
 ·exact .inr hb
theorem Texts_cl {M S : Nat → Prop} {H : Hp} {p : Nat} {sp : Bool} {bs : List UInt8} {v u : Value} {l : List ByteArray} (hW : Wr M H p sp bs v) (hu : StrSl S H u l) (hS : ∀ x, S x → ¬ M x ∧ x ≠ p) (hl : bs.length + szs l + 9 ≤ 140737488355328) :
  Cl Tryz.prog 64 [.pointer (some ⟨p, 0, none⟩), u] H fun r H' => r = .pointer (some ⟨p, 0, none⟩) ∧ WrP M H p sp (bs ++ l.flatMap textE) H' := by
 refine cl_of mixed c_wire_Writer_Texts (Nat.le_of_ble_eq_true rfl) ?_
 simp only [fwp, ir_wire_Writer_Texts, argF, Nat.reduceAdd]
 have hall : ∀ s ∈ l, Sz s := by
  obtain ⟨a, c, -, -, -, hel⟩ := SlP.open hu
  intro s hs
  obtain ⟨i, hi, rfl⟩ := List.getElem_of_mem hs
  obtain ⟨b, o, -, -, cs, -, -, h⟩ := hel i hi
  exact h
 obtain ⟨a, c, rfl, hc, hll, hel⟩ := SlP.open hu
 have hp := cell_lt hW.c0
 refine w_reg fun K hK => ?_; simp (disch := omega) only [↓wD, wU, simprocAttr]; refine hK _ _ ?_; clear hK K
 refine w_seq (w_seq ?_)
 refine w_reg fun K hK => ?_
 simp (disch := omega) only [↓wD, wU, simprocAttr]
 refine w_call (known_cl hW) ?_
 rintro _ H ⟨rfl, rfl⟩
 simp (disch := omega) only [↓wD, wU, simprocAttr]
 refine hK _ _ ?_
 clear hK K
 refine wt ?_
 refine w_reg fun K hK => ?_; simp (disch := omega) only [↓wD, wU, simprocAttr]; refine hK _ _ ?_; clear hK K
 refine w_blk (w_loop (fun n' f H' => f 0 = .pointer (some ⟨p, 0, none⟩) ∧ f 9 = .slice a l.length c ∧ f 10 = .int .i64 l.length ∧ KeepOn (fun x => ¬ M x ∧ x ≠ p) H H' ∧ ∃ (i : Nat) (M' : Nat → Prop) (v' : Value), f 11 = .int .i64 i ∧ i ≤ l.length ∧ n' = l.length - i ∧ Wr M' H' p sp (bs ++ (l.take i).flatMap textE) v' ∧ ∀ x, M' x → M x ∨ H.size ≤ x) l.length ⟨(by simp only [wL, Nat.reduceBEq]), (by simp only [wL, Nat.reduceBEq]), (by simp only [wL, Nat.reduceBEq]), KeepOn.refl _ _, 0, M, v, (by simp only [wL, Nat.reduceBEq]; rfl), Nat.zero_le _, rfl, by simpa using hW, fun _ h => .inl h⟩ ?_)
 rintro n' f H' ⟨f0, f9, f10, hk, i, M', v', f11, hi, rfl, hW', hM'⟩
 by_cases hil : i < l.length
 ·obtain ⟨b, o, rfl, hSb, cs, hcs, rfl, hx⟩ := hel i hil
  have hb := cell_lt (rdn1 hcs)
  have hcs' := rdn1 (rdn_block (hk.2 b hb (hS b hSb)) hcs)
  have htake : l.take (i + 1) = l.take i ++ [l[i]] := by
   rw [List.take_add_one, List.getElem?_eq_getElem hil]; rfl
  refine w_reg fun K hK => ?_; simp (disch := omega) only [↓wD, wU, simprocAttr, f10, f11, hil]; refine hK _ _ ?_; clear hK K
  refine w_seq ?_
  refine wt ?_
  refine w_skip ?_
  (with_reducible repeat first | apply q_n | apply q_e | apply q_r | apply bq_n | apply bq_e | apply bq_r | apply bq_o rfl)
  refine w_seq (w_blk ?_)
  refine w_reg fun K hK => ?_; simp (disch := omega) only [↓wD, wU, simprocAttr, f9, f11, hil, hcs']; refine hK _ _ ?_; clear hK K
  refine w_reg1 fun K hK => ?_
  simp (disch := omega) only [↓wD, wU, simprocAttr, f0]
  refine w_csb fun room hroom => ?_
  have hu1 := (csb_block (H := H') (t := 5) hroom).resolve_right fun h => h hx
  generalize hH1 : H'.push (.cells (cellsOfBytes (l[i]).data.toList ++ List.replicate (room - (l[i]).size) (Value.int .u8 0)).toArray 5 (room, room + 1)) = H1 at hu1 ⊢
  have hE1 : Ext H' H1 := by subst hH1; exact (Ext.refl _).push _
  have hs1 : H1.size = H'.size + 1 := by subst hH1; simp
  clear hH1
  simp (disch := omega) only [↓wD, wU, simprocAttr, f0]
  have hE2 : Ext H1 (H1.push (.cells #[.slice (some ⟨H'.size, 0, none⟩) (l[i]).size room] 46)) := (Ext.refl _).push _
  have hc2 : cell (H1.push (.cells #[.slice (some ⟨H'.size, 0, none⟩) (l[i]).size room] 46)) H1.size 0 = some (.slice (some ⟨H'.size, 0, none⟩) (l[i]).size room) := cell_new H1 [_] 46 0
  have hlt' := hW'.lt
  have hp' := cell_lt hW'.c0
  have hle : (bs ++ (l.take i).flatMap textE).length + (l[i]).data.toList.length + 9 ≤ 140737488355328 := by
   have e : (l[i]).data.toList.length = (l[i]).size := rfl
   have h1 := szs_take hall i
   have h2 := szs_le (l := l) i hil
   rw [e, List.length_append]; omega
  refine w_call (Rows1_cl (b := H1.size) (S := fun x => x = H'.size) (hW'.ext (hE1.trans hE2)) hc2 ⟨fun hm => by have := hlt' _ hm; omega, by omega⟩ (hu1.ext hE2) (fun x hx => by subst hx; exact ⟨fun hm => by have := hlt' _ hm; omega, by omega⟩) hle) ?_
  rintro _ H2 ⟨rfl, hk2, M2, v2, hW2, hM2⟩
  simp (disch := omega) only [↓wD, wU, simprocAttr]
  refine hK _ _ ?_
  (with_reducible repeat first | apply q_n | apply q_e | apply q_r | apply bq_n | apply bq_e | apply bq_r | apply bq_o rfl)
  refine w_reg1 fun K hK => ?_; simp (disch := omega) only [↓wD, wU, simprocAttr, f11]; refine hK _ _ ?_; clear hK K
  (with_reducible repeat first | apply q_n | apply q_e | apply q_r | apply bq_n | apply bq_e | apply bq_r | apply bq_o rfl)
  have hs := hk.1
  have hE3 := hE1.trans hE2
  have hs3 := hE3.1
  refine ⟨l.length - (i + 1), by omega, (by simp only [wL, Nat.reduceBEq, f0]), (by simp only [wL, Nat.reduceBEq, f9]), (by simp only [wL, Nat.reduceBEq, f10]), ⟨Nat.le_trans hk.1 (Nat.le_trans hs3 hk2.1), fun b hb hS => ?_⟩, i + 1, M2, v2, (by simp only [wL, Nat.reduceBEq]), by omega, rfl, ?_, fun y hy => ?_⟩
  ·rw [hk2.2 b (by omega) ⟨fun hm => (hM' b hm).elim hS.1 (by omega), hS.2⟩, hE3.2 b (by omega), hk.2 b hb hS]
  ·rw [htake, textsE_snoc, ← List.append_assoc]; exact hW2
  ·rcases hM2 y hy with h | h
   ·exact hM' y h
   ·exact .inr (by omega)
 ·refine w_reg fun K hK => ?_; simp (disch := omega) only [↓wD, wU, simprocAttr, f10, f11, hil]; refine hK _ _ ?_; clear hK K
  refine w_seq ?_
  refine wf ?_
  refine w_exit ?_
  (with_reducible repeat first | apply q_n | apply q_e | apply q_r | apply bq_n | apply bq_e | apply bq_r | apply bq_o rfl)
  have hfull : l.take i = l := List.take_of_length_le (by omega)
  rw [hfull] at hW'
  refine w_reg fun K hK => ?_; simp (disch := omega) only [↓wD, wU, simprocAttr, f0]; refine hK _ _ ?_; clear hK K
  refine w_ret ?_; (with_reducible repeat first | apply q_n | apply q_e | apply q_r | apply bq_n | apply bq_e | apply bq_r | apply bq_o rfl); refine ret1 (by (try simp only [wL, Nat.reduceBEq]); rfl) ?_
  exact ⟨rfl, hk, M', v', hW', hM'⟩
theorem NewWriter_cl {H : Hp} : Cl Tryz.prog 21 [] H fun r H' => r = .pointer (some ⟨H.size, 0, none⟩) ∧ Ext H H' ∧ Wr (fun _ => False) H' H.size false [] (.slice none 0 0) := by
 refine cl_of mixed c_wire_NewWriter (Nat.le_of_ble_eq_true rfl) ?_
 simp only [fwp, ir_wire_NewWriter, argF, Nat.reduceAdd]
 refine w_reg fun K hK => ?_; simp (disch := omega) only [↓wD, wU, simprocAttr]; refine hK _ _ ?_; clear hK K
 refine w_reg fun K hK => ?_; simp (disch := omega) only [↓wD, wU, simprocAttr]; refine hK _ _ ?_; clear hK K
 refine w_ret ?_; (with_reducible repeat first | apply q_n | apply q_e | apply q_r | apply bq_n | apply bq_e | apply bq_r | apply bq_o rfl); refine ret1 (by (try simp only [wL, Nat.reduceBEq]); rfl) ?_
 refine ⟨rfl, (Ext.refl _).push _, ?_, ?_, ?_, fun i => ?_, Row.nil, fun h => h, fun _ h => h.elim⟩
 ·exact cell_new H [.bool true, .bool false, .slice none 0 0] _ 0
 ·exact cell_new H [.bool true, .bool false, .slice none 0 0] _ 1
 ·exact cell_new H [.bool true, .bool false, .slice none 0 0] _ 2
 ·exact frz_new H [.bool true, .bool false, .slice none 0 0] _ i
end Go.WK
/-
 Bytes of one's own; reading of bytes.
-/
namespace Go.WK
open Go Go.Proofs

theorem sn_tt {n c m d : Nat} : nilV .sli (.slice none n c) (.slice none m d) = some true := rfl
theorem cloneB_cl {S : Nat → Prop} {H : Hp} {v : Value} {l : List UInt8} (hv : BSl S H v l) : Cl Tryz.prog 67 [v] H fun r H' => Ext H H' ∧ ∃ M : Nat → Prop, (∀ x, M x → H.size ≤ x ∧ x < H'.size) ∧ Row M H' 1 r (bcs l) := by
 refine cl_of mixed c_slices_Clone_byte (Nat.le_of_ble_eq_true rfl) ?_
 simp only [fwp, ir_slices_Clone_byte, argF, Nat.reduceAdd]
 have hl : l.length ≤ big := hv.1
 obtain ⟨css, a, c, hlen, rfl, hsrc, hel⟩ := SlP.rows (hv.ext ((Ext.refl H).push (.cells #[] 5)))
 obtain rfl := bcs_of hlen hel
 refine w_reg fun K hK => ?_; simp (disch := omega) only [↓wD, wU, simprocAttr]; refine hK _ _ ?_; clear hK K
 refine w_seq (w_seq ?_)
 cases a with
 | none =>
  refine w_reg fun K hK => ?_; simp (disch := omega) only [↓wD, wU, simprocAttr]; refine hK _ _ ?_; clear hK K
  refine wt ?_
  refine w_reg fun K hK => ?_; simp (disch := omega) only [↓wD, wU, simprocAttr]; refine hK _ _ ?_; clear hK K
  refine w_ret ?_; (with_reducible repeat first | apply q_n | apply q_e | apply q_r | apply bq_n | apply bq_e | apply bq_r | apply bq_o rfl); refine ret1 (by (try simp only [wL, Nat.reduceBEq]); rfl) ?_
  have : l = [] := by
   rcases hv.2 with ⟨_, _, h⟩ | ⟨b, o, c, h, _⟩
   ·exact h
   ·cases h
  subst this
  exact ⟨Ext.refl _, fun _ => False, fun _ h => h.elim, Row.nil⟩
 | some p =>
  refine w_reg fun K hK => ?_; simp (disch := omega) only [↓wD, wU, simprocAttr]; refine hK _ _ ?_; clear hK K
  refine wf ?_
  refine w_skip ?_
  (with_reducible repeat first | apply q_n | apply q_e | apply q_r | apply bq_n | apply bq_e | apply bq_r | apply bq_o rfl)
  refine w_reg fun K hK => ?_
  simp (disch := omega) only [↓wD, wU, simprocAttr, hsrc]
  refine app_row (M := fun x => x = H.size) (css := []) (k := 1) (new := bcs l) (bytes := 1) (v := .slice (some ⟨H.size, 0, none⟩) 0 0) Row.empty (by rintro x rfl; simp) bcs_ok rfl (by decide) (by unfold big at hl; simp; omega) ?_ rfl
  intro v' H' hrow hkeep hsz
  simp only [↓wD, wU, simprocAttr]
  refine hK _ _ ?_
  clear hK K
  refine w_ret ?_; (with_reducible repeat first | apply q_n | apply q_e | apply q_r | apply bq_n | apply bq_e | apply bq_r | apply bq_o rfl); refine ret1 (by (try simp only [wL, Nat.reduceBEq]); rfl) ?_
  have hs : H.size + 1 ≤ H'.size := by have := hkeep.1; simpa using this
  refine ⟨⟨by omega, fun b hb => ?_⟩, fun x => (x = H.size ∨ x = (H.push (.cells #[] 5)).size) ∧ x < H'.size, ?_, ?_⟩
  ·rw [hkeep.2 b (by simp; omega) (by omega), Array.getElem?_push, if_neg (by omega)]
  ·rintro x ⟨h | h, h2⟩
   ·omega
   ·simp at h; omega
  ·simpa using hrow.lt
theorem Done_cl {M : Nat → Prop} {H : Hp} {p : Nat} {sp : Bool} {bs : List UInt8} {v : Value} (hW : Wr M H p sp bs v) (hl : bs.length ≤ big) :
  Cl Tryz.prog 22 [.pointer (some ⟨p, 0, none⟩)] H fun r H' => Ext H H' ∧ ((sp = true ∧ r = .tuple #[.slice none 0 0, .int .i64 2]) ∨ (sp = false ∧ ∃ (u : Value) (M' : Nat → Prop), r = .tuple #[u, .int .i64 0] ∧ (∀ x, M' x → H.size ≤ x ∧ x < H'.size) ∧ Row M' H' 1 u (bcs bs))) := by
 refine cl_of mixed c_wire_Writer_Done (Nat.le_of_ble_eq_true rfl) ?_
 simp only [fwp, ir_wire_Writer_Done, argF, Nat.reduceAdd]
 refine w_reg fun K hK => ?_; simp (disch := omega) only [↓wD, wU, simprocAttr]; refine hK _ _ ?_; clear hK K
 refine w_seq (w_blk ?_)
 refine w_reg fun K hK => ?_
 simp (disch := omega) only [↓wD, wU, simprocAttr]
 refine w_call (known_cl hW) ?_
 rintro _ H ⟨rfl, rfl⟩
 simp (disch := omega) only [↓wD, wU, simprocAttr]
 refine hK _ _ ?_
 clear hK K
 refine wf ?_
 refine w_reg fun K hK => ?_; simp (disch := omega) only [↓wD, wU, simprocAttr, hW.c1]; refine hK _ _ ?_; clear hK K
 cases sp with
 | true =>
  refine wt ?_
  refine w_reg fun K hK => ?_; simp (disch := omega) only [↓wD, wU, simprocAttr]; refine hK _ _ ?_; clear hK K
  refine w_ret ?_; (with_reducible repeat first | apply q_n | apply q_e | apply q_r | apply bq_n | apply bq_e | apply bq_r | apply bq_o rfl); refine ret2 (by (try simp only [wL, Nat.reduceBEq]); rfl) (by (try simp only [wL, Nat.reduceBEq]); rfl) ?_
  exact ⟨Ext.refl _, .inl ⟨rfl, rfl⟩⟩
 | false =>
  refine wf ?_
  refine w_skip ?_
  (with_reducible repeat first | apply q_n | apply q_e | apply q_r | apply bq_n | apply bq_e | apply bq_r | apply bq_o rfl)
  have hsl : BSl M H v bs := hW.row.slp (by simp) (by simpa using hl) fun i hi hl => by simp [ElB]
  refine w_reg fun K hK => ?_
  simp (disch := omega) only [↓wD, wU, simprocAttr, hW.c2]
  refine w_call (cloneB_cl hsl) ?_
  rintro _ H2 ⟨hE, M2, hM2, hrow⟩
  simp (disch := omega) only [↓wD, wU, simprocAttr]
  refine hK _ _ ?_
  clear hK K
  refine w_ret ?_; (with_reducible repeat first | apply q_n | apply q_e | apply q_r | apply bq_n | apply bq_e | apply bq_r | apply bq_o rfl); refine ret2 (by (try simp only [wL, Nat.reduceBEq]); rfl) (by (try simp only [wL, Nat.reduceBEq]); rfl) ?_
  exact ⟨hE, .inr ⟨rfl, _, M2, rfl, hM2, hrow⟩⟩

/-! Reading. A reader that has failed has nothing left. -/
structure Rr (S : Nat → Prop) (H : Hp) (p : Nat) (st : Option (List UInt8)) (v : Value) : Prop where
 c0 : cell H p 0 = some (.bool true)
 c1 : cell H p 1 = some (.bool st.isNone)
 c2 : cell H p 2 = some v
 fz : ∀ i, frz H p i = false
 sl : BSl S H v (st.getD [])
 pS : ¬ S p
 lt : ∀ x, S x → x < H.size
theorem Rr.keep {S : Nat → Prop} {H H' : Hp} {p : Nat} {st : Option (List UInt8)} {v : Value} (h : Rr S H p st v) (hs : H.size ≤ H'.size) (hk : ∀ x, x < H.size → S x ∨ x = p → H'[x]? = H[x]?) : Rr S H' p st v :=
 have hp := cell_lt h.c0
 ⟨(cell_block (hk p hp (.inr rfl)) 0).trans h.c0, (cell_block (hk p hp (.inr rfl)) 1).trans h.c1, (cell_block (hk p hp (.inr rfl)) 2).trans h.c2, fun i => (frz_block (hk p hp (.inr rfl)) i).trans (h.fz i),
  SlP.mono h.sl (fun _ h => h) (fun b hb hb' => hk b hb' (.inl hb)) (fun _ _ _ h => h), h.pS, fun x hx => Nat.lt_of_lt_of_le (h.lt x hx) hs⟩
theorem Rr.ext {S : Nat → Prop} {H H' : Hp} {p : Nat} {st : Option (List UInt8)} {v : Value} (h : Rr S H p st v) (hE : Ext H H') : Rr S H' p st v := h.keep hE.1 fun x hx _ => hE.2 x hx
/-- What a reading leaves. -/
def RrP (S : Nat → Prop) (H : Hp) (p : Nat) (st : Option (List UInt8)) (H' : Hp) : Prop := KeepOn (fun x => x ≠ p) H H' ∧ ∃ v', Rr S H' p st v'
theorem RrP.trans {S : Nat → Prop} {H H1 H2 : Hp} {p : Nat} {st : Option (List UInt8)} (hk : KeepOn (fun x => x ≠ p) H H1) (h : RrP S H1 p st H2) : RrP S H p st H2 := ⟨hk.trans h.1, h.2⟩
theorem pl_true {a : Option Addr} : Pl a True = True := eq_true fun _ _ => .inr trivial
theorem on_cl {S : Nat → Prop} {H : Hp} {p : Nat} {st : Option (List UInt8)} {v : Value} (h : Rr S H p st v) : Cl Tryz.prog 79 [.pointer (some ⟨p, 0, none⟩)] H fun r H' => r = .bool st.isSome ∧ H' = H := by
 refine cl_of mixed c_wire_Reader_on (Nat.le_of_ble_eq_true rfl) ?_
 simp only [fwp, ir_wire_Reader_on, argF, Nat.reduceAdd]
 refine w_reg fun K hK => ?_; simp (disch := omega) only [↓wD, wU, simprocAttr]; refine hK _ _ ?_; clear hK K
 refine w_reg fun K hK => ?_
 simp (disch := omega) only [↓wD, wU, simprocAttr, h.c0, h.c1]
 refine hK _ _ ?_
 clear hK K
 refine w_ret ?_; (with_reducible repeat first | apply q_n | apply q_e | apply q_r | apply bq_n | apply bq_e | apply bq_r | apply bq_o rfl); refine ret1 (by (try simp only [wL, Nat.reduceBEq]); rfl) ?_
 cases st <;> exact ⟨rfl, rfl⟩
/-- A store of two cells of a reader. -/
theorem Rr.put {S : Nat → Prop} {H : Hp} {p : Nat} {st st' : Option (List UInt8)} {v v' : Value} (h : Rr S H p st v) (hst : st'.isNone = st.isNone) (hv : BSl S H v' (st'.getD [])) : RrP S H p st' (putc H p 2 v') := by
 have hk : KeepOn (fun x => x ≠ p) H (putc H p 2 v') := ⟨by rw [putc_size]; exact Nat.le_refl _, fun b _ hb => putc_ne hb⟩
 refine ⟨hk, v', ?_, ?_, ?_, fun i => ?_, ?_, h.pS, fun x hx => by rw [putc_size]; exact h.lt x hx⟩
 ·rw [cell_putc, if_neg (by simp)]; exact h.c0
 ·rw [cell_putc, if_neg (by simp), hst]; exact h.c1
 ·rw [cell_putc, if_pos ⟨rfl, rfl⟩, h.c2]; rfl
 ·rw [frz_putc]; exact h.fz i
 ·exact SlP.mono hv (fun _ h => h) (fun b hb _ => putc_ne fun e => h.pS (e ▸ hb)) fun _ _ _ h => h
theorem fail_cl {S : Nat → Prop} {H : Hp} {p : Nat} {st : Option (List UInt8)} {v : Value} (h : Rr S H p st v) : Cl Tryz.prog 134 [.pointer (some ⟨p, 0, none⟩)] H fun _ H' => RrP S H p none H' := by
 refine cl_of mixed c_wire_place_fail (Nat.le_of_ble_eq_true rfl) ?_
 simp only [fwp, ir_wire_place_fail, argF, Nat.reduceAdd]
 refine w_reg1 fun K hK => ?_
 simp (disch := omega) only [↓wD, wU, simprocAttr, h.c1, h.c2, h.fz, cell_putc, frz_putc]
 refine hK _ _ ?_
 refine retN rfl ?_
 have hk : KeepOn (fun x => x ≠ p) H (putc (putc H p 1 (.bool true)) p 2 (.slice none 0 0)) := ⟨by rw [putc_size, putc_size]; exact Nat.le_refl _, fun b _ hb => (putc_ne hb).trans (putc_ne hb)⟩
 refine ⟨hk, .slice none 0 0, ?_, ?_, ?_, fun i => ?_, ⟨Nat.zero_le _, .inl ⟨none, rfl, rfl⟩⟩, h.pS, fun x hx => by rw [putc_size, putc_size]; exact h.lt x hx⟩
 ·rw [cell_putc, if_neg (by simp), cell_putc, if_neg (by simp)]; exact h.c0
 ·rw [cell_putc, if_neg (by simp), cell_putc, if_pos ⟨rfl, rfl⟩, h.c1]; rfl
 ·have e : cell (putc H p 1 (.bool true)) p 2 = some v := by rw [cell_putc, if_neg (by simp)]; exact h.c2
  rw [cell_putc, if_pos ⟨rfl, rfl⟩, e]; rfl
 ·rw [frz_putc, frz_putc]; exact h.fz i
end Go.WK
/-
 Reading numbers, flags, rows.
-/
namespace Go.WK
open Go Go.Proofs

theorem take_cl {S : Nat → Prop} {H : Hp} {p n : Nat} {l : List UInt8} {v : Value} (h : Rr S H p (some l) v) (hn : n ≤ 4611686018427387903) :
  Cl Tryz.prog 133 [.pointer (some ⟨p, 0, none⟩), .int .i64 n] H fun r H' =>
   (l.length < n ∧ r = .slice none 0 0 ∧ RrP S H p none H') ∨ (n ≤ l.length ∧ RrP S H p (some (l.drop n)) H' ∧ BSl S H' r (l.take n)) := by
 refine cl_of mixed c_wire_place_take (Nat.le_of_ble_eq_true rfl) ?_
 simp only [fwp, ir_wire_place_take, argF, Nat.reduceAdd]
 obtain ⟨a, c, rfl, hc, hl, -⟩ := SlP.open h.sl
 simp only [Option.getD_some] at hc hl ⊢
 have hsl := h.sl
 simp only [Option.getD_some] at hsl
 have c2 := h.c2
 simp only [Option.getD_some] at c2
 refine w_reg fun K hK => ?_; simp (disch := omega) only [↓wD, wU, simprocAttr]; refine hK _ _ ?_; clear hK K
 refine w_seq (w_seq ?_)
 by_cases hln : l.length < n
 ·refine w_reg fun K hK => ?_; simp (disch := omega) only [↓wD, wU, simprocAttr, c2, hln]; refine hK _ _ ?_; clear hK K
  refine wt ?_
  refine w_reg fun K hK => ?_
  simp (disch := omega) only [↓wD, wU, simprocAttr]
  refine w_call (fail_cl h) ?_
  rintro _ H2 hP
  simp (disch := omega) only [↓wD, wU, simprocAttr]
  refine hK _ _ ?_
  clear hK K
  refine w_reg fun K hK => ?_; simp (disch := omega) only [↓wD, wU, simprocAttr]; refine hK _ _ ?_; clear hK K
  refine w_ret ?_; (with_reducible repeat first | apply q_n | apply q_e | apply q_r | apply bq_n | apply bq_e | apply bq_r | apply bq_o rfl); refine ret1 (by (try simp only [wL, Nat.reduceBEq]); rfl) ?_
  exact .inl ⟨hln, rfl, hP⟩
 ·refine w_reg fun K hK => ?_; simp (disch := omega) only [↓wD, wU, simprocAttr, c2, hln]; refine hK _ _ ?_; clear hK K
  refine wf ?_
  refine w_skip ?_
  (with_reducible repeat first | apply q_n | apply q_e | apply q_r | apply bq_n | apply bq_e | apply bq_r | apply bq_o rfl)
  have hb1 : bounds3 l.length c none (some (.int .i64 (n : Int))) (some (.int .i64 (n : Int))) = some (0, n, n) := b3_011 (m := n) (by rw [bd_ok (by omega) (by omega)]; simp) (by rw [bd_ok (by omega) (by omega)]; simp)
  have hb2 : bounds3 l.length c (some (.int .i64 (n : Int))) none none = some (n, l.length, c) := b3_10 (by rw [bd_ok (by omega) (by omega)]; simp)
  have hPl : ∀ q : Prop, (0 < l.length ∨ q) → Pl a q = True := by
   intro q hq
   rcases hsl.2 with ⟨wa, e, e2⟩ | ⟨b, o, c', e, -⟩
   ·subst e2
    have : q := hq.resolve_left (by simp)
    rw [eq_true this]; exact pl_true
   ·obtain ⟨rfl, -⟩ := Value.slice.inj e; exact pl_some
  have hp1 : Pl a (n = 0) = True := hPl _ (by omega)
  have hp2 : Pl a (c = n) = True := by
   rcases hsl.2 with ⟨wa, e, e2⟩ | ⟨b, o, c', e, -⟩
   ·have e4 := (Value.slice.inj e).2.2
    subst e2
    simp only [List.length_nil] at hln
    have : c = n := by omega
    rw [eq_true this]; exact pl_true
   ·obtain ⟨rfl, -⟩ := Value.slice.inj e; exact pl_some
  refine w_reg fun K hK => ?_; simp (disch := omega) only [↓wD, wU, simprocAttr, c2, hb1, hp1]; refine hK _ _ ?_; clear hK K
  refine w_reg fun K hK => ?_; simp (disch := omega) only [↓wD, wU, simprocAttr, c2, hb2, hp2, h.fz]; refine hK _ _ ?_; clear hK K
  refine w_reg fun K hK => ?_; simp (disch := omega) only [↓wD, wU, simprocAttr]; refine hK _ _ ?_; clear hK K
  refine w_ret ?_; (with_reducible repeat first | apply q_n | apply q_e | apply q_r | apply bq_n | apply bq_e | apply bq_r | apply bq_o rfl); refine ret1 (by (try simp only [wL, Nat.reduceBEq]); rfl) ?_
  have hdrop : BSl S H (.slice (if c = n then a else Option.map (fun p => ({ block := p.block, off := p.off + n * 1, spot := none } : Addr)) a) (l.length - n) (c - n)) (l.drop n) := by
   refine ⟨by unfold big; simp only [List.length_drop, List.length_take]; omega, ?_⟩
   rcases hsl.2 with ⟨wa, e, e2⟩ | ⟨b, o, c', e, hcc, hel⟩
   ·obtain ⟨rfl, -, rfl⟩ := Value.slice.inj e
    subst e2
    have : n = 0 := by simp at hln; omega
    subst this
    exact .inl ⟨a, by simp, rfl⟩
   ·obtain ⟨rfl, -, rfl⟩ := Value.slice.inj e
    by_cases hcn : c = n
    ·refine .inl ⟨some ⟨b, o, none⟩, ?_, List.drop_eq_nil_of_le (by omega)⟩
     rw [if_pos hcn]
     have e1 : l.length - n = 0 := by omega
     have e2 : c - n = 0 := by omega
     rw [e1, e2]
    ·refine .inr ⟨b, o + n * 1, c - n, by rw [if_neg hcn, List.length_drop]; rfl, by simp; omega, fun i hi => ?_⟩
     rw [List.length_drop] at hi
     obtain ⟨h1, cs, h2, h3⟩ := hel (n + i) (by omega)
     refine ⟨h1, cs, ?_, ?_⟩
     ·have : o + n * 1 + i * 1 = o + (n + i) * 1 := by omega
      rw [this]; exact h2
     ·rw [List.getElem_drop]; exact h3
  have htake : BSl S H (.slice (if n = 0 then a else Option.map (fun p => ({ block := p.block, off := p.off, spot := none } : Addr)) a) n n) (l.take n) := by
   refine ⟨by unfold big; simp only [List.length_drop, List.length_take]; omega, ?_⟩
   rcases hsl.2 with ⟨wa, e, e2⟩ | ⟨b, o, c', e, hcc, hel⟩
   ·obtain ⟨rfl, -, rfl⟩ := Value.slice.inj e
    subst e2
    have : n = 0 := by simp at hln; omega
    subst this
    exact .inl ⟨a, by simp, rfl⟩
   ·obtain ⟨rfl, -, rfl⟩ := Value.slice.inj e
    refine .inr ⟨b, o, n, by rw [List.length_take, Nat.min_eq_left (by omega)]; split <;> rfl, by rw [List.length_take]; omega, fun i hi => ?_⟩
    rw [List.length_take] at hi
    obtain ⟨h1, cs, h2, h3⟩ := hel i (by omega)
    refine ⟨h1, cs, h2, ?_⟩
    rw [List.getElem_take]; exact h3
  have hP := h.put (st' := some (l.drop n)) rfl hdrop
  refine .inr ⟨by omega, hP, SlP.mono htake (fun _ h => h) (fun b hb hb' => hP.1.2 b hb' fun e => h.pS (e ▸ hb)) fun _ _ _ h => h⟩
end Go.WK
/-
 Reading numbers.
-/
namespace Go.WK
open Go Go.Proofs

/-- A number from the front: k bytes of it are read already, they are acc. -/
def numD (k acc : Nat) : List UInt8 → Option (Nat × List UInt8)
 | [] => none
 | b :: l => if 9 ≤ k then none else if b.toNat < 128 then (if 0 < k ∧ b.toNat = 0 then none else some (acc + b.toNat % 128 * 128 ^ k, l)) else numD (k + 1) (acc + b.toNat % 128 * 128 ^ k) l
def numR (most : Int) : Option (List UInt8) → Int × Option (List UInt8)
 | none => (0, none)
 | some l => match numD 0 0 l with
  | none => (0, none)
  | some (n, l') => if (n : Int) > 4611686018427387903 ∨ (n : Int) > most then (0, none) else (n, some l')
theorem and127 : ∀ a : Fin 256, (BitVec.ofInt 8 (a.val : Int) &&& BitVec.ofInt 8 127).toNat = a.val % 128 := by decide
theorem and127' (c : UInt8) : IntKind.u8.wrap ((BitVec.ofInt IntKind.u8.bits (c.toNat : Int) &&& BitVec.ofInt IntKind.u8.bits 127).toNat : Int) = ((c.toNat % 128 : Nat) : Int) := by
 have hc : c.toNat < 256 := c.toNat_lt
 have := and127 ⟨c.toNat, hc⟩
 simp only at this
 have e : IntKind.u8.bits = 8 := rfl
 rw [e, this, wr8 (by omega) (by omega)]
theorem pow7 (k : Nat) : (128 : Nat) ^ k = 2 ^ (7 * k) := by rw [Nat.pow_mul]
theorem or_add {acc x k : Nat} (hk : k < 9) (ha : acc < 128 ^ k) (hx : x < 128) : IntKind.i64.wrap ((BitVec.ofInt IntKind.i64.bits (acc : Int) ||| BitVec.ofInt IntKind.i64.bits ((x * 128 ^ k : Nat) : Int)).toNat : Int) = ((acc + x * 128 ^ k : Nat) : Int) := by
 have e : IntKind.i64.bits = 64 := rfl
 have hpk : 128 ^ (k + 1) ≤ 128 ^ 9 := Nat.pow_le_pow_right (by decide) (by omega)
 have h9 : (128 : Nat) ^ 9 = 9223372036854775808 := by decide
 have hlt : acc + x * 128 ^ k < 128 ^ (k + 1) := by
  have : x * 128 ^ k ≤ 127 * 128 ^ k := Nat.mul_le_mul_right _ (by omega)
  rw [Nat.pow_succ]; omega
 have hor : acc ||| x * 128 ^ k = acc + x * 128 ^ k := by
  rw [pow7] at ha ⊢
  have h1 := Nat.two_pow_add_eq_or_of_lt ha x
  rw [Nat.mul_comm x, Nat.or_comm, ← h1, Nat.add_comm]
 rw [e, BitVec.toNat_or, BitVec.ofInt_natCast, BitVec.ofInt_natCast, BitVec.toNat_ofNat, BitVec.toNat_ofNat, Nat.mod_eq_of_lt (by omega), Nat.mod_eq_of_lt (by omega), hor, wr64 (by omega) (by omega)]
theorem shl_pow {x k : Nat} (hk : k < 9) (hx : x < 128) : IntKind.i64.wrap ((x : Int) * 2 ^ (min (7 * k) IntKind.i64.bits)) = ((x * 128 ^ k : Nat) : Int) := by
 have e : IntKind.i64.bits = 64 := rfl
 have hpk : 128 ^ (k + 1) ≤ 128 ^ 9 := Nat.pow_le_pow_right (by decide) (by omega)
 have h9 : (128 : Nat) ^ 9 = 9223372036854775808 := by decide
 have hlt : x * 128 ^ k < 128 ^ (k + 1) := by
  rw [Nat.pow_succ, Nat.mul_comm]; exact Nat.mul_lt_mul_of_pos_left hx (Nat.pow_pos (by decide))
 rw [e, Nat.min_eq_left (by omega)]
 have e2 : (x : Int) * 2 ^ (7 * k) = ((x * 128 ^ k : Nat) : Int) := by rw [pow7]; push_cast; rfl
 rw [e2, wr64 (by omega) (by omega)]
theorem cvi8 (n : Nat) (h : n < 256) : IntKind.i64.wrap (n : Int) = n := wr64 (by omega) (by omega)
theorem numD_lt {k acc : Nat} : ∀ {l : List UInt8} {n : Nat} {l' : List UInt8}, numD k acc l = some (n, l') → l'.length < l.length := by
 intro l
 induction l generalizing k acc with
 | nil => intro n l' h; simp [numD] at h
 | cons b l ih =>
  intro n l' h
  rw [numD] at h
  split at h
  ·cases h
  ·split at h
   ·split at h
    ·cases h
    ·simp only [Option.some.injEq, Prod.mk.injEq] at h
     obtain ⟨-, rfl⟩ := h
     simp
   ·have := ih h
    simp; omega

theorem Number_cl {S : Nat → Prop} {H : Hp} {p : Nat} {st : Option (List UInt8)} {v : Value} {most : Int} (h : Rr S H p st v) :
  Cl Tryz.prog 74 [.pointer (some ⟨p, 0, none⟩), .int .i64 most] H fun r H' => r = .int .i64 (numR most st).1 ∧ RrP S H p (numR most st).2 H' := by
 refine cl_of mixed c_wire_Reader_Number (Nat.le_of_ble_eq_true rfl) ?_
 simp only [fwp, ir_wire_Reader_Number, argF, Nat.reduceAdd]
 refine w_reg fun K hK => ?_; simp (disch := omega) only [↓wD, wU, simprocAttr]; refine hK _ _ ?_; clear hK K
 refine w_seq (w_seq ?_)
 refine w_reg fun K hK => ?_
 simp (disch := omega) only [↓wD, wU, simprocAttr]
 refine w_call (on_cl h) ?_
 rintro _ H ⟨rfl, rfl⟩
 cases st with
 | none =>
  simp (disch := omega) only [↓wD, wU, simprocAttr, Option.isSome_none]
  refine hK _ _ ?_
  clear hK K
  refine wt ?_
  refine w_reg fun K hK => ?_; simp (disch := omega) only [↓wD, wU, simprocAttr]; refine hK _ _ ?_; clear hK K
  refine w_ret ?_; (with_reducible repeat first | apply q_n | apply q_e | apply q_r | apply bq_n | apply bq_e | apply bq_r | apply bq_o rfl); refine ret1 (by (try simp only [wL, Nat.reduceBEq]); rfl) ?_
  exact ⟨rfl, KeepOn.refl _ _, v, h⟩
 | some l =>
  simp (disch := omega) only [↓wD, wU, simprocAttr]
  refine hK _ _ ?_
  clear hK K
  refine wf ?_
  refine w_skip ?_
  (with_reducible repeat first | apply q_n | apply q_e | apply q_r | apply bq_n | apply bq_e | apply bq_r | apply bq_o rfl)
  refine w_reg fun K hK => ?_; simp (disch := omega) only [↓wD, wU, simprocAttr]; refine hK _ _ ?_; clear hK K
  refine w_seq (w_seq ?_)
  refine w_reg fun K hK => ?_; simp (disch := omega) only [↓wD, wU, simprocAttr]; refine hK _ _ ?_; clear hK K
  refine w_blk (w_loop (fun n' f H' => f 0 = .pointer (some ⟨p, 0, none⟩) ∧ f 1 = .int .i64 most ∧ KeepOn (fun x => x ≠ p) H H' ∧ ∃ (k acc : Nat) (l1 : List UInt8) (v1 : Value), f 5 = .int .i64 acc ∧ f 6 = .int .i64 ((7 * k : Nat) : Int) ∧ k ≤ 9 ∧ acc < 128 ^ k ∧ Rr S H' p (some l1) v1 ∧ numD k acc l1 = numD 0 0 l ∧ n' = 9 - k) 9 ⟨(by simp only [wL, Nat.reduceBEq]), (by simp only [wL, Nat.reduceBEq]), KeepOn.refl _ _, 0, 0, l, v, (by simp only [wL, Nat.reduceBEq]; rfl), (by simp only [wL, Nat.reduceBEq]; rfl), by omega, by simp, h, rfl, rfl⟩ ?_)
  rintro n' f H' ⟨f0, f1, hk, k, acc, l1, v1, f5, f6, hk9, hacc, hR, hD, rfl⟩
  have failed : ∀ (H2 : Hp), numR most (some l) = (0, none) → KeepOn (fun x => x ≠ p) H H2 → (∃ v', Rr S H2 p none v') → (Value.int .i64 0 = .int .i64 (numR most (some l)).1 ∧ RrP S H p (numR most (some l)).2 H2) := by
   intro H2 e hk2 hv
   rw [e]; exact ⟨rfl, hk2, hv⟩
  refine w_seq (w_seq ?_)
  by_cases hlt : k < 9
  ·have h63 : (((7 * k : Nat) : Int) < 63) = True := by simp; omega
   refine w_reg fun K hK => ?_; simp (disch := omega) only [↓wD, wU, simprocAttr, f6, h63]; refine hK _ _ ?_; clear hK K
   refine wt ?_
   refine w_skip ?_
   (with_reducible repeat first | apply q_n | apply q_e | apply q_r | apply bq_n | apply bq_e | apply bq_r | apply bq_o rfl)
   refine w_seq (w_blk ?_)
   refine w_reg fun K hK => ?_
   simp (disch := omega) only [↓wD, wU, simprocAttr, f0]
   refine w_call (take_cl (n := 1) hR (by omega)) ?_
   rintro _ H2 hT
   rcases hT with ⟨hl0, rfl, hk2, v2, hR2⟩ | ⟨hl1, ⟨hk2, v2, hR2⟩, hb⟩
   ·simp (disch := omega) only [↓wD, wU, simprocAttr]
    refine hK _ _ ?_
    clear hK K
    refine w_seq (w_seq ?_)
    refine w_reg fun K hK => ?_; simp (disch := omega) only [↓wD, wU, simprocAttr, f0, hR2.c1]; refine hK _ _ ?_; clear hK K
    refine wt ?_
    refine w_reg fun K hK => ?_; simp (disch := omega) only [↓wD, wU, simprocAttr]; refine hK _ _ ?_; clear hK K
    refine w_ret ?_; (with_reducible repeat first | apply q_n | apply q_e | apply q_r | apply bq_n | apply bq_e | apply bq_r | apply bq_o rfl); refine ret1 (by (try simp only [wL, Nat.reduceBEq]); rfl) ?_
    have hl : l1 = [] := List.length_eq_zero_iff.1 (by omega)
    have e : numR most (some l) = (0, none) := by simp only [numR, ← hD, hl, numD]
    exact failed _ e (hk.trans hk2) ⟨v2, hR2⟩
   ·match l1, hl1 with
    | c :: l2, _ =>
    simp only [List.drop_succ_cons, List.drop_zero, List.take_succ_cons, List.take_zero] at hR2 hb
    obtain ⟨ba, bc, rfl, hbc, -, hbe⟩ := SlP.open hb
    obtain ⟨bb, bo, rfl, -, bcs', hbr, rfl⟩ := hbe 0 (by simp)
    have hbx := rdn1 hbr
    simp only [Nat.zero_mul, Nat.add_zero, List.getElem_cons_zero] at hbx
    simp (disch := omega) only [↓wD, wU, simprocAttr]
    refine hK _ _ ?_
    clear hK K
    have t0 : (0 : Int).toNat = 0 := rfl
    have h01 : ((0 : Int) < ((1 : Nat) : Int)) = True := by simp
    refine w_seq (w_seq ?_)
    refine w_reg fun K hK => ?_; simp (disch := omega) only [↓wD, wU, simprocAttr, f0, hR2.c1]; refine hK _ _ ?_; clear hK K
    refine wf ?_
    refine w_skip ?_
    (with_reducible repeat first | apply q_n | apply q_e | apply q_r | apply bq_n | apply bq_e | apply bq_r | apply bq_o rfl)
    have hc := c.toNat_lt
    have hm : c.toNat % 128 < 128 := Nat.mod_lt _ (by decide)
    have hc8 : IntKind.i64.wrap ((c.toNat % 128 : Nat) : Int) = ((c.toNat % 128 : Nat) : Int) := cvi8 _ (by omega)
    refine w_reg fun K hK => ?_; simp (disch := omega) only [↓wD, wU, simprocAttr, f5, f6, hbx, t0, h01, Nat.zero_lt_one, List.length_cons, List.length_nil, and127', hc8, shl_pow hlt hm, or_add hlt hacc hm]; refine hK _ _ ?_; clear hK K
    have hacc2 : acc + c.toNat % 128 * 128 ^ k < 128 ^ (k + 1) := by
     have : c.toNat % 128 * 128 ^ k ≤ 127 * 128 ^ k := Nat.mul_le_mul_right _ (by omega)
     rw [Nat.pow_succ]; omega
    have hpk : 128 ^ (k + 1) ≤ 128 ^ 9 := Nat.pow_le_pow_right (by decide) (by omega)
    have h9 : (128 : Nat) ^ 9 = 9223372036854775808 := by decide
    have hkk := hk.trans hk2
    generalize hn : acc + c.toNat % 128 * 128 ^ k = n at hacc2 ⊢
    by_cases hc128 : c.toNat < 128
    ·have hcc : ((c.toNat : Int) < 128) = True := by simp; omega
     have hDc : numD 0 0 l = if 0 < k ∧ c.toNat = 0 then none else some (n, l2) := by
      rw [← hD, numD, if_neg (by omega), if_pos hc128, hn]
     refine w_reg fun K hK => ?_; simp (disch := omega) only [↓wD, wU, simprocAttr, hbx, t0, h01, Nat.zero_lt_one, List.length_cons, List.length_nil, hcc]; refine hK _ _ ?_; clear hK K
     refine wt ?_
     refine w_seq (w_seq ?_)
     have bad : ∀ (g : Fr), g 0 = .pointer (some ⟨p, 0, none⟩) → numR most (some l) = (0, none) → g 53 = .bool true → True := fun _ _ _ _ => trivial
     by_cases hbad1 : 0 < k ∧ c.toNat = 0
     ·have e : numR most (some l) = (0, none) := by simp only [numR, hDc, if_pos hbad1]
      have z1 : ((0 : Int) < ((7 * k : Nat) : Int)) = True := by simp; omega
      have z2 : ((c.toNat : Int) = 0) = True := by simp; omega
      refine w_reg fun K hK => ?_; simp (disch := omega) only [↓wD, wU, simprocAttr, f6, hbx, t0, h01, Nat.zero_lt_one, List.length_cons, List.length_nil, z1, z2]; refine hK _ _ ?_; clear hK K
      refine wt ?_
      refine w_reg fun K hK => ?_
      simp (disch := omega) only [↓wD, wU, simprocAttr, f0]
      refine w_call (fail_cl hR2) ?_
      rintro _ H3 ⟨hk3, v3, hR3⟩
      simp (disch := omega) only [↓wD, wU, simprocAttr]
      refine hK _ _ ?_
      clear hK K
      refine w_reg fun K hK => ?_; simp (disch := omega) only [↓wD, wU, simprocAttr]; refine hK _ _ ?_; clear hK K
      refine w_ret ?_; (with_reducible repeat first | apply q_n | apply q_e | apply q_r | apply bq_n | apply bq_e | apply bq_r | apply bq_o rfl); refine ret1 (by (try simp only [wL, Nat.reduceBEq]); rfl) ?_
      exact failed _ e (hkk.trans hk3) ⟨v3, hR3⟩
     ·have hDc' : numD 0 0 l = some (n, l2) := by rw [hDc, if_neg hbad1]
      by_cases hbad2 : (n : Int) > 4611686018427387903 ∨ (n : Int) > most
      ·have e : numR most (some l) = (0, none) := by simp only [numR, hDc', if_pos hbad2]
       have fin : ∀ (c : C) (g : Fr) (Q : Ex → Fr → Hp → Prop), True := fun _ _ _ => trivial
       by_cases hk0 : 0 < k
       ·have z1 : ((0 : Int) < ((7 * k : Nat) : Int)) = True := by simp; omega
        have z2 : ((c.toNat : Int) = 0) = False := by simp; omega
        by_cases hb3 : (4611686018427387903 : Int) < (n : Int)
        ·refine w_reg fun K hK => ?_; simp (disch := omega) only [↓wD, wU, simprocAttr, f6, hbx, t0, h01, Nat.zero_lt_one, List.length_cons, List.length_nil, z1, z2, hb3]; refine hK _ _ ?_; clear hK K
         refine wt ?_
         refine w_reg fun K hK => ?_
         simp (disch := omega) only [↓wD, wU, simprocAttr, f0]
         refine w_call (fail_cl hR2) ?_
         rintro _ H3 ⟨hk3, v3, hR3⟩
         simp (disch := omega) only [↓wD, wU, simprocAttr]
         refine hK _ _ ?_
         clear hK K
         refine w_reg fun K hK => ?_; simp (disch := omega) only [↓wD, wU, simprocAttr]; refine hK _ _ ?_; clear hK K
         refine w_ret ?_; (with_reducible repeat first | apply q_n | apply q_e | apply q_r | apply bq_n | apply bq_e | apply bq_r | apply bq_o rfl); refine ret1 (by (try simp only [wL, Nat.reduceBEq]); rfl) ?_
         exact failed _ e (hkk.trans hk3) ⟨v3, hR3⟩
        ·have hb4 : most < (n : Int) := hbad2.resolve_left hb3
         refine w_reg fun K hK => ?_; simp (disch := omega) only [↓wD, wU, simprocAttr, f1, f6, hbx, t0, h01, Nat.zero_lt_one, List.length_cons, List.length_nil, z1, z2, hb3, hb4]; refine hK _ _ ?_; clear hK K
         refine wt ?_
         refine w_reg fun K hK => ?_
         simp (disch := omega) only [↓wD, wU, simprocAttr, f0]
         refine w_call (fail_cl hR2) ?_
         rintro _ H3 ⟨hk3, v3, hR3⟩
         simp (disch := omega) only [↓wD, wU, simprocAttr]
         refine hK _ _ ?_
         clear hK K
         refine w_reg fun K hK => ?_; simp (disch := omega) only [↓wD, wU, simprocAttr]; refine hK _ _ ?_; clear hK K
         refine w_ret ?_; (with_reducible repeat first | apply q_n | apply q_e | apply q_r | apply bq_n | apply bq_e | apply bq_r | apply bq_o rfl); refine ret1 (by (try simp only [wL, Nat.reduceBEq]); rfl) ?_
         exact failed _ e (hkk.trans hk3) ⟨v3, hR3⟩
       ·have z1 : ((0 : Int) < ((7 * k : Nat) : Int)) = False := by simp; omega
        by_cases hb3 : (4611686018427387903 : Int) < (n : Int)
        ·refine w_reg fun K hK => ?_; simp (disch := omega) only [↓wD, wU, simprocAttr, f6, hbx, t0, h01, Nat.zero_lt_one, List.length_cons, List.length_nil, z1, hb3]; refine hK _ _ ?_; clear hK K
         refine wt ?_
         refine w_reg fun K hK => ?_
         simp (disch := omega) only [↓wD, wU, simprocAttr, f0]
         refine w_call (fail_cl hR2) ?_
         rintro _ H3 ⟨hk3, v3, hR3⟩
         simp (disch := omega) only [↓wD, wU, simprocAttr]
         refine hK _ _ ?_
         clear hK K
         refine w_reg fun K hK => ?_; simp (disch := omega) only [↓wD, wU, simprocAttr]; refine hK _ _ ?_; clear hK K
         refine w_ret ?_; (with_reducible repeat first | apply q_n | apply q_e | apply q_r | apply bq_n | apply bq_e | apply bq_r | apply bq_o rfl); refine ret1 (by (try simp only [wL, Nat.reduceBEq]); rfl) ?_
         exact failed _ e (hkk.trans hk3) ⟨v3, hR3⟩
        ·have hb4 : most < (n : Int) := hbad2.resolve_left hb3
         refine w_reg fun K hK => ?_; simp (disch := omega) only [↓wD, wU, simprocAttr, f1, f6, hbx, t0, h01, Nat.zero_lt_one, List.length_cons, List.length_nil, z1, hb3, hb4]; refine hK _ _ ?_; clear hK K
         refine wt ?_
         refine w_reg fun K hK => ?_
         simp (disch := omega) only [↓wD, wU, simprocAttr, f0]
         refine w_call (fail_cl hR2) ?_
         rintro _ H3 ⟨hk3, v3, hR3⟩
         simp (disch := omega) only [↓wD, wU, simprocAttr]
         refine hK _ _ ?_
         clear hK K
         refine w_reg fun K hK => ?_; simp (disch := omega) only [↓wD, wU, simprocAttr]; refine hK _ _ ?_; clear hK K
         refine w_ret ?_; (with_reducible repeat first | apply q_n | apply q_e | apply q_r | apply bq_n | apply bq_e | apply bq_r | apply bq_o rfl); refine ret1 (by (try simp only [wL, Nat.reduceBEq]); rfl) ?_
         exact failed _ e (hkk.trans hk3) ⟨v3, hR3⟩
      ·have e : numR most (some l) = ((n : Int), some l2) := by simp only [numR, hDc', if_neg hbad2]
       have hb3 : ((4611686018427387903 : Int) < (n : Int)) = False := eq_false fun h => hbad2 (.inl h)
       have hb4 : (most < (n : Int)) = False := eq_false fun h => hbad2 (.inr h)
       by_cases hk0 : 0 < k
       ·have z1 : ((0 : Int) < ((7 * k : Nat) : Int)) = True := by simp; omega
        have z2 : ((c.toNat : Int) = 0) = False := by simp; omega
        refine w_reg fun K hK => ?_; simp (disch := omega) only [↓wD, wU, simprocAttr, f1, f6, hbx, t0, h01, Nat.zero_lt_one, List.length_cons, List.length_nil, z1, z2, hb3, hb4]; refine hK _ _ ?_; clear hK K
        refine wf ?_
        refine w_skip ?_
        (with_reducible repeat first | apply q_n | apply q_e | apply q_r | apply bq_n | apply bq_e | apply bq_r | apply bq_o rfl)
        refine w_reg fun K hK => ?_; simp (disch := omega) only [↓wD, wU, simprocAttr]; refine hK _ _ ?_; clear hK K
        refine w_ret ?_; (with_reducible repeat first | apply q_n | apply q_e | apply q_r | apply bq_n | apply bq_e | apply bq_r | apply bq_o rfl); refine ret1 (by (try simp only [wL, Nat.reduceBEq]); rfl) ?_
        rw [e]; exact ⟨rfl, hkk, v2, hR2⟩
       ·have z1 : ((0 : Int) < ((7 * k : Nat) : Int)) = False := by simp; omega
        refine w_reg fun K hK => ?_; simp (disch := omega) only [↓wD, wU, simprocAttr, f1, f6, hbx, t0, h01, Nat.zero_lt_one, List.length_cons, List.length_nil, z1, hb3, hb4]; refine hK _ _ ?_; clear hK K
        refine wf ?_
        refine w_skip ?_
        (with_reducible repeat first | apply q_n | apply q_e | apply q_r | apply bq_n | apply bq_e | apply bq_r | apply bq_o rfl)
        refine w_reg fun K hK => ?_; simp (disch := omega) only [↓wD, wU, simprocAttr]; refine hK _ _ ?_; clear hK K
        refine w_ret ?_; (with_reducible repeat first | apply q_n | apply q_e | apply q_r | apply bq_n | apply bq_e | apply bq_r | apply bq_o rfl); refine ret1 (by (try simp only [wL, Nat.reduceBEq]); rfl) ?_
        rw [e]; exact ⟨rfl, hkk, v2, hR2⟩
    ·have hcc : ((c.toNat : Int) < 128) = False := by simp; omega
     refine w_reg fun K hK => ?_; simp (disch := omega) only [↓wD, wU, simprocAttr, hbx, t0, h01, Nat.zero_lt_one, List.length_cons, List.length_nil, hcc]; refine hK _ _ ?_; clear hK K
     refine wf ?_
     refine w_skip ?_
     (with_reducible repeat first | apply q_n | apply q_e | apply q_r | apply bq_n | apply bq_e | apply bq_r | apply bq_o rfl)
     have hw7 : IntKind.i64.wrap (((7 * k : Nat) : Int) + 7) = ((7 * (k + 1) : Nat) : Int) := by rw [wr64 (by omega) (by omega)]; omega
     refine w_reg1 fun K hK => ?_; simp (disch := omega) only [↓wD, wU, simprocAttr, f6, hw7]; refine hK _ _ ?_; clear hK K
     (with_reducible repeat first | apply q_n | apply q_e | apply q_r | apply bq_n | apply bq_e | apply bq_r | apply bq_o rfl)
     refine ⟨9 - (k + 1), by omega, (by simp only [wL, Nat.reduceBEq, f0]), (by simp only [wL, Nat.reduceBEq, f1]), hkk, k + 1, n, l2, v2, (by simp only [wL, Nat.reduceBEq]), (by simp only [wL, Nat.reduceBEq]), by omega, hacc2, hR2, ?_, rfl⟩
     rw [← hD, numD, if_neg (by omega), if_neg hc128, hn]
  ·have h63 : (((7 * k : Nat) : Int) < 63) = False := by simp; omega
   refine w_reg fun K hK => ?_; simp (disch := omega) only [↓wD, wU, simprocAttr, f6, h63]; refine hK _ _ ?_; clear hK K
   refine wf ?_
   refine w_exit ?_
   (with_reducible repeat first | apply q_n | apply q_e | apply q_r | apply bq_n | apply bq_e | apply bq_r | apply bq_o rfl)
   have e : numR most (some l) = (0, none) := by
    have : numD 0 0 l = none := by
     rw [← hD]
     cases l1 with
     | nil => rfl
     | cons c l1 => rw [numD, if_pos (by omega)]
    simp only [numR, this]
   refine w_reg fun K hK => ?_
   simp (disch := omega) only [↓wD, wU, simprocAttr, f0]
   refine w_call (fail_cl hR) ?_
   rintro _ H3 ⟨hk3, v3, hR3⟩
   simp (disch := omega) only [↓wD, wU, simprocAttr]
   refine hK _ _ ?_
   clear hK K
   refine w_reg fun K hK => ?_; simp (disch := omega) only [↓wD, wU, simprocAttr]; refine hK _ _ ?_; clear hK K
   refine w_ret ?_; (with_reducible repeat first | apply q_n | apply q_e | apply q_r | apply bq_n | apply bq_e | apply bq_r | apply bq_o rfl); refine ret1 (by (try simp only [wL, Nat.reduceBEq]); rfl) ?_
   exact failed _ e (hk.trans hk3) ⟨v3, hR3⟩
end Go.WK
/-
 Reading flags, rows, texts; what is left.
-/
namespace Go.WK
open Go Go.Proofs

def flagR : Option (List UInt8) → Bool × Option (List UInt8)
 | some (b :: l) => if 1 < b.toNat then (false, none) else (decide (b.toNat = 1), some l)
 | _ => (false, none)
def rowR (most : Int) (st : Option (List UInt8)) : List UInt8 × Option (List UInt8) := match (numR most st).2 with
 | none => ([], none)
 | some l => if l.length < (numR most st).1.toNat then ([], none) else (l.take (numR most st).1.toNat, some (l.drop (numR most st).1.toNat))
def textR (most : Int) (st : Option (List UInt8)) : ByteArray × Option (List UInt8) := (⟨(rowR most st).1.toArray⟩, (rowR most st).2)
theorem numR_nat (most : Int) (st : Option (List UInt8)) : ∃ n : Nat, (numR most st).1 = n ∧ n ≤ 4611686018427387903 := by
 cases st with
 | none => exact ⟨0, rfl, by omega⟩
 | some l =>
  simp only [numR]
  cases numD 0 0 l with
  | none => exact ⟨0, rfl, by omega⟩
  | some q =>
   obtain ⟨n, l'⟩ := q
   simp only
   by_cases h : (n : Int) > 4611686018427387903 ∨ (n : Int) > most
   ·rw [if_pos h]; exact ⟨0, rfl, by omega⟩
   ·rw [if_neg h]; exact ⟨n, rfl, by omega⟩
theorem numR_most (most : Int) (st : Option (List UInt8)) (h : 0 ≤ most) : (numR most st).1 ≤ most := by
 cases st with
 | none => exact h
 | some l =>
  simp only [numR]
  cases numD 0 0 l with
  | none => exact h
  | some q =>
   obtain ⟨n, l'⟩ := q
   simp only
   by_cases h : (n : Int) > 4611686018427387903 ∨ (n : Int) > most
   ·rw [if_pos h]; assumption
   ·rw [if_neg h]; simp only; omega
theorem Flag_cl {S : Nat → Prop} {H : Hp} {p : Nat} {st : Option (List UInt8)} {v : Value} (h : Rr S H p st v) :
  Cl Tryz.prog 137 [.pointer (some ⟨p, 0, none⟩)] H fun r H' => r = .bool (flagR st).1 ∧ RrP S H p (flagR st).2 H' := by
 refine cl_of mixed c_wire_Reader_Flag (Nat.le_of_ble_eq_true rfl) ?_
 simp only [fwp, ir_wire_Reader_Flag, argF, Nat.reduceAdd]
 refine w_reg fun K hK => ?_; simp (disch := omega) only [↓wD, wU, simprocAttr]; refine hK _ _ ?_; clear hK K
 refine w_seq (w_seq ?_)
 refine w_reg fun K hK => ?_
 simp (disch := omega) only [↓wD, wU, simprocAttr]
 refine w_call (on_cl h) ?_
 rintro _ H ⟨rfl, rfl⟩
 cases st with
 | none =>
  simp (disch := omega) only [↓wD, wU, simprocAttr, Option.isSome_none]
  refine hK _ _ ?_
  clear hK K
  refine wt ?_
  refine w_reg fun K hK => ?_; simp (disch := omega) only [↓wD, wU, simprocAttr]; refine hK _ _ ?_; clear hK K
  refine w_ret ?_; (with_reducible repeat first | apply q_n | apply q_e | apply q_r | apply bq_n | apply bq_e | apply bq_r | apply bq_o rfl); refine ret1 (by (try simp only [wL, Nat.reduceBEq]); rfl) ?_
  exact ⟨rfl, KeepOn.refl _ _, v, h⟩
 | some l =>
  simp (disch := omega) only [↓wD, wU, simprocAttr]
  refine hK _ _ ?_
  clear hK K
  refine wf ?_
  refine w_skip ?_
  (with_reducible repeat first | apply q_n | apply q_e | apply q_r | apply bq_n | apply bq_e | apply bq_r | apply bq_o rfl)
  refine w_reg fun K hK => ?_
  simp (disch := omega) only [↓wD, wU, simprocAttr]
  refine w_call (take_cl (n := 1) h (by omega)) ?_
  rintro _ H2 hT
  rcases hT with ⟨hl0, rfl, hk2, v2, hR2⟩ | ⟨hl1, ⟨hk2, v2, hR2⟩, hb⟩
  ·simp (disch := omega) only [↓wD, wU, simprocAttr]
   refine hK _ _ ?_
   clear hK K
   refine w_seq (w_seq ?_)
   refine w_reg fun K hK => ?_; simp (disch := omega) only [↓wD, wU, simprocAttr, hR2.c1]; refine hK _ _ ?_; clear hK K
   refine wt ?_
   refine w_reg fun K hK => ?_
   simp (disch := omega) only [↓wD, wU, simprocAttr]
   refine w_call (fail_cl hR2) ?_
   rintro _ H3 ⟨hk3, v3, hR3⟩
   simp (disch := omega) only [↓wD, wU, simprocAttr]
   refine hK _ _ ?_
   clear hK K
   refine w_reg fun K hK => ?_; simp (disch := omega) only [↓wD, wU, simprocAttr]; refine hK _ _ ?_; clear hK K
   refine w_ret ?_; (with_reducible repeat first | apply q_n | apply q_e | apply q_r | apply bq_n | apply bq_e | apply bq_r | apply bq_o rfl); refine ret1 (by (try simp only [wL, Nat.reduceBEq]); rfl) ?_
   have hl : l = [] := List.length_eq_zero_iff.1 (by omega)
   subst hl
   exact ⟨rfl, hk2.trans hk3, v3, hR3⟩
  ·obtain ⟨c, l2, rfl⟩ : ∃ c l2, l = c :: l2 := by
    cases l with
    | nil => simp at hl1
    | cons c l2 => exact ⟨c, l2, rfl⟩
   simp only [List.drop_succ_cons, List.drop_zero, List.take_succ_cons, List.take_zero] at hR2 hb
   obtain ⟨ba, bc, rfl, hbc, -, hbe⟩ := SlP.open hb
   obtain ⟨bb, bo, rfl, -, bcs', hbr, rfl⟩ := hbe 0 (by simp)
   have hbx := rdn1 hbr
   simp only [Nat.zero_mul, Nat.add_zero, List.getElem_cons_zero] at hbx
   simp (disch := omega) only [↓wD, wU, simprocAttr]
   refine hK _ _ ?_
   clear hK K
   have t0 : (0 : Int).toNat = 0 := rfl
   have h01 : ((0 : Int) < ((1 : Nat) : Int)) = True := by simp
   refine w_seq (w_seq ?_)
   by_cases h1 : 1 < c.toNat
   ·have z : ((1 : Int) < (c.toNat : Int)) = True := by simp; omega
    refine w_reg fun K hK => ?_; simp (disch := omega) only [↓wD, wU, simprocAttr, hR2.c1, hbx, t0, h01, Nat.zero_lt_one, List.length_cons, List.length_nil, z]; refine hK _ _ ?_; clear hK K
    refine wt ?_
    refine w_reg fun K hK => ?_
    simp (disch := omega) only [↓wD, wU, simprocAttr]
    refine w_call (fail_cl hR2) ?_
    rintro _ H3 ⟨hk3, v3, hR3⟩
    simp (disch := omega) only [↓wD, wU, simprocAttr]
    refine hK _ _ ?_
    clear hK K
    refine w_reg fun K hK => ?_; simp (disch := omega) only [↓wD, wU, simprocAttr]; refine hK _ _ ?_; clear hK K
    refine w_ret ?_; (with_reducible repeat first | apply q_n | apply q_e | apply q_r | apply bq_n | apply bq_e | apply bq_r | apply bq_o rfl); refine ret1 (by (try simp only [wL, Nat.reduceBEq]); rfl) ?_
    have e : flagR (some (c :: l2)) = (false, none) := by simp only [flagR, if_pos h1]
    rw [e]
    exact ⟨rfl, hk2.trans hk3, v3, hR3⟩
   ·have z : ((1 : Int) < (c.toNat : Int)) = False := by simp; omega
    refine w_reg fun K hK => ?_; simp (disch := omega) only [↓wD, wU, simprocAttr, hR2.c1, hbx, t0, h01, Nat.zero_lt_one, List.length_cons, List.length_nil, z]; refine hK _ _ ?_; clear hK K
    refine wf ?_
    refine w_skip ?_
    (with_reducible repeat first | apply q_n | apply q_e | apply q_r | apply bq_n | apply bq_e | apply bq_r | apply bq_o rfl)
    refine w_reg fun K hK => ?_; simp (disch := omega) only [↓wD, wU, simprocAttr, hbx, t0, h01, Nat.zero_lt_one, List.length_cons, List.length_nil]; refine hK _ _ ?_; clear hK K
    refine w_ret ?_; (with_reducible repeat first | apply q_n | apply q_e | apply q_r | apply bq_n | apply bq_e | apply bq_r | apply bq_o rfl); refine ret1 (by (try simp only [wL, Nat.reduceBEq]); rfl) ?_
    have e : flagR (some (c :: l2)) = (decide (c.toNat = 1), some l2) := by simp only [flagR, if_neg h1]
    rw [e]
    refine ⟨?_, hk2, v2, hR2⟩
    have : ((c.toNat : Int) = 1) = (c.toNat = 1) := by simp; omega
    simp only [this]
theorem Row_cl {S : Nat → Prop} {H : Hp} {p : Nat} {st : Option (List UInt8)} {v : Value} {most : Int} (h : Rr S H p st v) :
  Cl Tryz.prog 162 [.pointer (some ⟨p, 0, none⟩), .int .i64 most] H fun r H' => RrP S H p (rowR most st).2 H' ∧ ∃ M : Nat → Prop, (∀ x, M x → H.size ≤ x ∧ x < H'.size) ∧ Row M H' 1 r (bcs (rowR most st).1) := by
 refine cl_of mixed c_wire_Reader_Row (Nat.le_of_ble_eq_true rfl) ?_
 simp only [fwp, ir_wire_Reader_Row, argF, Nat.reduceAdd]
 have hp := cell_lt h.c0
 refine w_reg fun K hK => ?_; simp (disch := omega) only [↓wD, wU, simprocAttr]; refine hK _ _ ?_; clear hK K
 refine w_reg fun K hK => ?_
 simp (disch := omega) only [↓wD, wU, simprocAttr]
 refine w_call (Number_cl (most := most) h) ?_
 rintro _ H1 ⟨rfl, hk1, v1, hR1⟩
 simp (disch := omega) only [↓wD, wU, simprocAttr]
 refine hK _ _ ?_
 clear hK K
 refine w_seq (w_seq ?_)
 refine w_reg fun K hK => ?_
 simp (disch := omega) only [↓wD, wU, simprocAttr]
 refine w_call (on_cl hR1) ?_
 rintro _ H1 ⟨rfl, rfl⟩
 cases hst : (numR most st).2 with
 | none =>
  rw [hst] at hR1
  have e : rowR most st = ([], none) := by simp only [rowR, hst]
  simp (disch := omega) only [↓wD, wU, simprocAttr, Option.isSome_none]
  refine hK _ _ ?_
  clear hK K
  refine wt ?_
  refine w_reg fun K hK => ?_; simp (disch := omega) only [↓wD, wU, simprocAttr]; refine hK _ _ ?_; clear hK K
  refine w_ret ?_; (with_reducible repeat first | apply q_n | apply q_e | apply q_r | apply bq_n | apply bq_e | apply bq_r | apply bq_o rfl); refine ret1 (by (try simp only [wL, Nat.reduceBEq]); rfl) ?_
  rw [e]
  exact ⟨⟨hk1, v1, hR1⟩, fun _ => False, fun _ h => h.elim, Row.nil⟩
 | some l =>
  rw [hst] at hR1
  obtain ⟨n, hn, hnt⟩ := numR_nat most st
  simp (disch := omega) only [↓wD, wU, simprocAttr]
  refine hK _ _ ?_
  clear hK K
  refine wf ?_
  refine w_skip ?_
  (with_reducible repeat first | apply q_n | apply q_e | apply q_r | apply bq_n | apply bq_e | apply bq_r | apply bq_o rfl)
  refine w_reg fun K hK => ?_
  simp (disch := omega) only [↓wD, wU, simprocAttr, hn]
  refine w_call (take_cl (n := n) hR1 hnt) ?_
  rintro _ H2 hT
  rcases hT with ⟨hl0, rfl, hk2, v2, hR2⟩ | ⟨hl1, ⟨hk2, v2, hR2⟩, hb⟩
  ·have e : rowR most st = ([], none) := by simp only [rowR, hst, hn, Int.toNat_natCast, if_pos hl0]
   have hnil : BSl (fun _ => False) H2 (.slice none 0 0) [] := ⟨Nat.zero_le _, .inl ⟨none, rfl, rfl⟩⟩
   simp (disch := omega) only [↓wD, wU, simprocAttr]
   refine w_call (cloneB_cl hnil) ?_
   rintro _ H3 ⟨hE3, M3, hM3, hrow⟩
   simp (disch := omega) only [↓wD, wU, simprocAttr]
   refine hK _ _ ?_
   clear hK K
   refine w_ret ?_; (with_reducible repeat first | apply q_n | apply q_e | apply q_r | apply bq_n | apply bq_e | apply bq_r | apply bq_o rfl); refine ret1 (by (try simp only [wL, Nat.reduceBEq]); rfl) ?_
   rw [e]
   have hs1 := hk1.1
   have hs2 := hk2.1
   exact ⟨⟨(hk1.trans hk2).trans (hE3.on _), v2, hR2.ext hE3⟩, M3, fun x hx => ⟨by have := hM3 x hx; omega, (hM3 x hx).2⟩, hrow⟩
  ·have e : rowR most st = (l.take n, some (l.drop n)) := by simp only [rowR, hst, hn, Int.toNat_natCast, if_neg (by omega : ¬ l.length < n)]
   simp (disch := omega) only [↓wD, wU, simprocAttr]
   refine w_call (cloneB_cl hb) ?_
   rintro _ H3 ⟨hE3, M3, hM3, hrow⟩
   simp (disch := omega) only [↓wD, wU, simprocAttr]
   refine hK _ _ ?_
   clear hK K
   refine w_ret ?_; (with_reducible repeat first | apply q_n | apply q_e | apply q_r | apply bq_n | apply bq_e | apply bq_r | apply bq_o rfl); refine ret1 (by (try simp only [wL, Nat.reduceBEq]); rfl) ?_
   rw [e]
   have hs1 := hk1.1
   have hs2 := hk2.1
   exact ⟨⟨(hk1.trans hk2).trans (hE3.on _), v2, hR2.ext hE3⟩, M3, fun x hx => ⟨by have := hM3 x hx; omega, (hM3 x hx).2⟩, hrow⟩
theorem bcs_flat (l : List UInt8) : (bcs l).flatten = cellsOfBytes l := by
 induction l with
 | nil => rfl
 | cons a l ih => simp only [List.map_cons, List.flatten_cons, cellsOfBytes] at ih ⊢; rw [ih]; rfl
theorem bytesOf_cells (l : List UInt8) : bytesOfCells (cellsOfBytes l) = some l := by
 induction l with
 | nil => rfl
 | cons a l ih =>
  have e : cellsOfBytes (a :: l) = .int .u8 a.toNat :: cellsOfBytes l := rfl
  rw [e, bytesOfCells, ih]
  simp
theorem w_cbs {M : Nat → Prop} {H : Hp} {a : Option Addr} {n c : Nat} {l : List UInt8} {κ : Value → Hp → Prop} (hrow : Row M H 1 (.slice a n c) (bcs l)) (h : κ (.string ⟨l.toArray⟩) H) : @cbsK H a n ⟨κ⟩ := by
 obtain ⟨hall, ⟨e, he⟩ | ⟨b, c', e, hc, hMb, hb, hown, hrd⟩⟩ := hrow
 ·obtain ⟨rfl, rfl, rfl⟩ := Value.slice.inj e
  have : l = [] := List.map_eq_nil_iff.1 he
  subst this
  exact h
 ·obtain ⟨rfl, rfl, rfl⟩ := Value.slice.inj e
  have hf := rdn_flat (o := 0) (fun i hi => by rw [Nat.zero_add]; exact hrd i hi)
  rw [bcs_flat, Nat.mul_one] at hf
  refine ⟨rfl, ?_⟩
  simp only [hf, onSome, bytesOf_cells]
  exact h
theorem Text_cl {S : Nat → Prop} {H : Hp} {p : Nat} {st : Option (List UInt8)} {v : Value} {most : Int} (h : Rr S H p st v) :
  Cl Tryz.prog 135 [.pointer (some ⟨p, 0, none⟩), .int .i64 most] H fun r H' => r = .string (textR most st).1 ∧ RrP S H p (textR most st).2 H' := by
 refine cl_of mixed c_wire_Reader_Text (Nat.le_of_ble_eq_true rfl) ?_
 simp only [fwp, ir_wire_Reader_Text, argF, Nat.reduceAdd]
 refine w_reg fun K hK => ?_; simp (disch := omega) only [↓wD, wU, simprocAttr]; refine hK _ _ ?_; clear hK K
 refine w_reg fun K hK => ?_
 simp (disch := omega) only [↓wD, wU, simprocAttr]
 refine w_call (Row_cl (most := most) h) ?_
 rintro _ H1 ⟨hP, M, hM, hrow⟩
 obtain ⟨a, c, rfl⟩ := hrow.form
 simp (disch := omega) only [↓wD, wU, simprocAttr]
 refine w_cbs hrow ?_
 simp (disch := omega) only [↓wD, wU, simprocAttr]
 refine hK _ _ ?_
 clear hK K
 refine w_ret ?_; (with_reducible repeat first | apply q_n | apply q_e | apply q_r | apply bq_n | apply bq_e | apply bq_r | apply bq_o rfl); refine ret1 (by (try simp only [wL, Nat.reduceBEq]); rfl) ?_
 exact ⟨rfl, hP⟩
theorem Left_cl {S : Nat → Prop} {H : Hp} {p : Nat} {st : Option (List UInt8)} {v : Value} (h : Rr S H p st v) :
  Cl Tryz.prog 32 [.pointer (some ⟨p, 0, none⟩)] H fun r H' => r = .int .i64 (st.getD []).length ∧ H' = H := by
 refine cl_of mixed c_wire_Reader_Left (Nat.le_of_ble_eq_true rfl) ?_
 simp only [fwp, ir_wire_Reader_Left, argF, Nat.reduceAdd]
 obtain ⟨a, c, rfl, -⟩ := SlP.open h.sl
 refine w_reg fun K hK => ?_; simp (disch := omega) only [↓wD, wU, simprocAttr]; refine hK _ _ ?_; clear hK K
 refine w_seq (w_seq ?_)
 refine w_reg fun K hK => ?_
 simp (disch := omega) only [↓wD, wU, simprocAttr]
 refine w_call (on_cl h) ?_
 rintro _ H ⟨rfl, rfl⟩
 cases st with
 | none =>
  simp (disch := omega) only [↓wD, wU, simprocAttr, Option.isSome_none]
  refine hK _ _ ?_
  clear hK K
  refine wt ?_
  refine w_reg fun K hK => ?_; simp (disch := omega) only [↓wD, wU, simprocAttr]; refine hK _ _ ?_; clear hK K
  refine w_ret ?_; (with_reducible repeat first | apply q_n | apply q_e | apply q_r | apply bq_n | apply bq_e | apply bq_r | apply bq_o rfl); refine ret1 (by (try simp only [wL, Nat.reduceBEq]); rfl) ?_
  exact ⟨rfl, rfl⟩
 | some l =>
  simp (disch := omega) only [↓wD, wU, simprocAttr]
  refine hK _ _ ?_
  clear hK K
  refine wf ?_
  refine w_skip ?_
  (with_reducible repeat first | apply q_n | apply q_e | apply q_r | apply bq_n | apply bq_e | apply bq_r | apply bq_o rfl)
  refine w_reg fun K hK => ?_; simp (disch := omega) only [↓wD, wU, simprocAttr, h.c2]; refine hK _ _ ?_; clear hK K
  refine w_ret ?_; (with_reducible repeat first | apply q_n | apply q_e | apply q_r | apply bq_n | apply bq_e | apply bq_r | apply bq_o rfl); refine ret1 (by (try simp only [wL, Nat.reduceBEq]); rfl) ?_
  exact ⟨rfl, rfl⟩
def endR (st : Option (List UInt8)) : Int := match st with | some [] => 0 | _ => 4
theorem End_cl {S : Nat → Prop} {H : Hp} {p : Nat} {st : Option (List UInt8)} {v : Value} (h : Rr S H p st v) :
  Cl Tryz.prog 36 [.pointer (some ⟨p, 0, none⟩)] H fun r H' => r = .int .i64 (endR st) ∧ H' = H := by
 refine cl_of mixed c_wire_Reader_End (Nat.le_of_ble_eq_true rfl) ?_
 simp only [fwp, ir_wire_Reader_End, argF, Nat.reduceAdd]
 obtain ⟨a, c, rfl, -⟩ := SlP.open h.sl
 refine w_reg fun K hK => ?_; simp (disch := omega) only [↓wD, wU, simprocAttr]; refine hK _ _ ?_; clear hK K
 refine w_seq (w_blk ?_)
 refine w_reg fun K hK => ?_; simp (disch := omega) only [↓wD, wU, simprocAttr, h.c0]; refine hK _ _ ?_; clear hK K
 refine wf ?_
 cases st with
 | none =>
  refine w_reg fun K hK => ?_; simp (disch := omega) only [↓wD, wU, simprocAttr, h.c1]; refine hK _ _ ?_; clear hK K
  refine wt ?_
  refine w_reg fun K hK => ?_; simp (disch := omega) only [↓wD, wU, simprocAttr]; refine hK _ _ ?_; clear hK K
  refine w_ret ?_; (with_reducible repeat first | apply q_n | apply q_e | apply q_r | apply bq_n | apply bq_e | apply bq_r | apply bq_o rfl); refine ret1 (by (try simp only [wL, Nat.reduceBEq]); rfl) ?_
  exact ⟨rfl, rfl⟩
 | some l =>
  have c1 := h.c1
  have c2 := h.c2
  simp only [Option.isNone_some, Option.getD_some] at c1 c2
  cases l with
  | nil =>
   have z : ((0 : Int) < ((0 : Nat) : Int)) = False := by simp
   refine w_reg fun K hK => ?_; simp (disch := omega) only [↓wD, wU, simprocAttr, c1, c2, z]; refine hK _ _ ?_; clear hK K
   refine wf ?_
   refine w_skip ?_
   (with_reducible repeat first | apply q_n | apply q_e | apply q_r | apply bq_n | apply bq_e | apply bq_r | apply bq_o rfl)
   refine w_reg fun K hK => ?_; simp (disch := omega) only [↓wD, wU, simprocAttr]; refine hK _ _ ?_; clear hK K
   refine w_ret ?_; (with_reducible repeat first | apply q_n | apply q_e | apply q_r | apply bq_n | apply bq_e | apply bq_r | apply bq_o rfl); refine ret1 (by (try simp only [wL, Nat.reduceBEq]); rfl) ?_
   exact ⟨rfl, rfl⟩
  | cons x l =>
   have z : ((0 : Int) < ((l.length + 1 : Nat) : Int)) = True := by simp
   refine w_reg fun K hK => ?_; simp (disch := omega) only [↓wD, wU, simprocAttr, c1, c2, z]; refine hK _ _ ?_; clear hK K
   refine wt ?_
   refine w_reg fun K hK => ?_; simp (disch := omega) only [↓wD, wU, simprocAttr]; refine hK _ _ ?_; clear hK K
   refine w_ret ?_; (with_reducible repeat first | apply q_n | apply q_e | apply q_r | apply bq_n | apply bq_e | apply bq_r | apply bq_o rfl); refine ret1 (by (try simp only [wL, Nat.reduceBEq]); rfl) ?_
   exact ⟨rfl, rfl⟩
theorem NewReader_cl {S : Nat → Prop} {H : Hp} {u : Value} {l : List UInt8} (hu : BSl S H u l) :
  Cl Tryz.prog 28 [u] H fun r H' => Ext H H' ∧ ∃ (p : Nat) (S' : Nat → Prop) (v : Value), r = .pointer (some ⟨p, 0, none⟩) ∧ H.size ≤ p ∧ (∀ x, S' x → H.size ≤ x ∧ x < H'.size) ∧ Rr S' H' p (some l) v := by
 refine cl_of mixed c_wire_NewReader (Nat.le_of_ble_eq_true rfl) ?_
 simp only [fwp, ir_wire_NewReader, argF, Nat.reduceAdd]
 refine w_reg fun K hK => ?_; simp (disch := omega) only [↓wD, wU, simprocAttr]; refine hK _ _ ?_; clear hK K
 refine w_reg fun K hK => ?_
 simp (disch := omega) only [↓wD, wU, simprocAttr]
 refine w_call (cloneB_cl hu) ?_
 rintro _ H1 ⟨hE, M, hM, hrow⟩
 obtain ⟨a, c, e⟩ := hrow.form
 rw [e]
 simp (disch := omega) only [↓wD, wU, simprocAttr]
 refine hK _ _ ?_
 clear hK K
 refine w_ret ?_; (with_reducible repeat first | apply q_n | apply q_e | apply q_r | apply bq_n | apply bq_e | apply bq_r | apply bq_o rfl); refine ret1 (by (try simp only [wL, Nat.reduceBEq]); rfl) ?_
 rw [e] at hrow
 have hs := hE.1
 refine ⟨hE.trans ((Ext.refl _).push _), H1.size, M, _, rfl, by omega, fun x hx => ⟨(hM x hx).1, by have := (hM x hx).2; simp; omega⟩, ⟨cell_new H1 [_, _, _] _ 0, cell_new H1 [_, _, _] _ 1, cell_new H1 [_, _, _] _ 2, fun i => frz_new H1 [_, _, _] _ i, ?_, fun hm => by have := (hM _ hm).2; omega, fun x hx => by have := (hM x hx).2; simp; omega⟩⟩
 have hsl : BSl M H1 (.slice a (bcs l).length c) l := hrow.slp (by simp) hu.1 fun i hi hl => by simp [ElB]
 exact SlP.ext hsl ((Ext.refl _).push _)
end Go.WK
/-
 Copies.
-/
namespace Go.WK
open Go Go.Proofs

theorem sn_t {n c m d : Nat} : nilV .sli (.slice none n c) (.slice none m d) = some true := nrfl rfl
theorem cloneAct_cl {S : Nat → Prop} {H : Hp} {v : Value} {l : List Ac} (hv : AcSl S H v l) (hl : l.length ≤ 1048576) : Cl Tryz.prog 108 [v] H fun r H' => AcSl (fun b => H.size ≤ b ∧ b < H'.size) H' r l ∧ Ext H H' := by
 refine cl_of mixed c_slices_Clone_Act (Nat.le_of_ble_eq_true rfl) ?_
 simp only [fwp, ir_slices_Clone_Act, argF, Nat.reduceAdd]
 obtain ⟨css, a, c, hlen, rfl, hsrc, hel⟩ := SlP.rows (hv.ext ((Ext.refl H).push (.cells #[] 98)))
 refine w_reg fun K hK => ?_; simp (disch := omega) only [↓wD, wU, simprocAttr]; refine hK _ _ ?_; clear hK K
 refine w_seq (w_seq ?_)
 cases a with
 | none =>
  refine w_reg fun K hK => ?_; simp (disch := omega) only [↓wD, wU, simprocAttr]; refine hK _ _ ?_; clear hK K
  refine wt ?_
  refine w_reg fun K hK => ?_; simp (disch := omega) only [↓wD, wU, simprocAttr]; refine hK _ _ ?_; clear hK K
  refine w_ret ?_; (with_reducible repeat first | apply q_n | apply q_e | apply q_r | apply bq_n | apply bq_e | apply bq_r | apply bq_o rfl); refine ret1 (by (try simp only [wL, Nat.reduceBEq]); rfl) ?_
  have : l = [] := by
   rcases hv.2 with ⟨_, _, h⟩ | ⟨b, o, c, h, _⟩
   ·exact h
   ·cases h
  subst this
  exact ⟨⟨by simp, .inl ⟨_, rfl, rfl⟩⟩, Ext.refl _⟩
 | some p =>
  refine w_reg fun K hK => ?_; simp (disch := omega) only [↓wD, wU, simprocAttr]; refine hK _ _ ?_; clear hK K
  refine wf ?_
  refine w_skip ?_
  (with_reducible repeat first | apply q_n | apply q_e | apply q_r | apply bq_n | apply bq_e | apply bq_r | apply bq_o rfl)
  refine w_reg fun K hK => ?_
  simp (disch := omega) only [↓wD, wU, simprocAttr, hsrc]
  refine app_row (M := fun x => x = H.size) (css := []) (k := 4) (new := css) (bytes := 48) (v := .slice (some ⟨H.size, 0, none⟩) 0 0) Row.empty (by rintro x rfl; simp) (fun cs hcs => ?_) rfl (by decide) (by simp; omega) ?_ rfl
  ·obtain ⟨i, hi, rfl⟩ := List.getElem_of_mem hcs
   exact ⟨(hel i hi (by omega)).2, (hel i hi (by omega)).1.one⟩
  ·intro v' H' hrow hkeep hsz
   simp only [↓wD, wU, simprocAttr]
   refine hK _ _ ?_
   clear hK K
   refine w_ret ?_; (with_reducible repeat first | apply q_n | apply q_e | apply q_r | apply bq_n | apply bq_e | apply bq_r | apply bq_o rfl); refine ret1 (by (try simp only [wL, Nat.reduceBEq]); rfl) ?_
   have hs : H.size + 1 ≤ H'.size := by have := hkeep.1; simpa using this
   refine ⟨?_, by omega, fun b hb => ?_⟩
   ·refine SlP.mono (H := H') (hrow.lt.slp (l := l) (by simpa using hlen) (by unfold big; omega) fun i hi hl => (hel i (by simpa using hi) hl).1) ?_ (fun _ _ _ => rfl) (fun _ _ _ h => h)
    rintro b ⟨h1 | h1, h2⟩
    ·omega
    ·simp at h1; omega
   ·rw [hkeep.2 b (by simp; omega) (by omega), Array.getElem?_push, if_neg (by omega)]
theorem cloneRead_cl {S : Nat → Prop} {H : Hp} {v : Value} {l : List Rd} (hv : RdSl S H v l) (hl : l.length ≤ 1048576) : Cl Tryz.prog 109 [v] H fun r H' => RdSl (fun b => H.size ≤ b ∧ b < H'.size) H' r l ∧ Ext H H' := by
 refine cl_of mixed c_slices_Clone_Read (Nat.le_of_ble_eq_true rfl) ?_
 simp only [fwp, ir_slices_Clone_Read, argF, Nat.reduceAdd]
 obtain ⟨css, a, c, hlen, rfl, hsrc, hel⟩ := SlP.rows (hv.ext ((Ext.refl H).push (.cells #[] 100)))
 refine w_reg fun K hK => ?_; simp (disch := omega) only [↓wD, wU, simprocAttr]; refine hK _ _ ?_; clear hK K
 refine w_seq (w_seq ?_)
 cases a with
 | none =>
  refine w_reg fun K hK => ?_; simp (disch := omega) only [↓wD, wU, simprocAttr]; refine hK _ _ ?_; clear hK K
  refine wt ?_
  refine w_reg fun K hK => ?_; simp (disch := omega) only [↓wD, wU, simprocAttr]; refine hK _ _ ?_; clear hK K
  refine w_ret ?_; (with_reducible repeat first | apply q_n | apply q_e | apply q_r | apply bq_n | apply bq_e | apply bq_r | apply bq_o rfl); refine ret1 (by (try simp only [wL, Nat.reduceBEq]); rfl) ?_
  have : l = [] := by
   rcases hv.2 with ⟨_, _, h⟩ | ⟨b, o, c, h, _⟩
   ·exact h
   ·cases h
  subst this
  exact ⟨⟨by simp, .inl ⟨_, rfl, rfl⟩⟩, Ext.refl _⟩
 | some p =>
  refine w_reg fun K hK => ?_; simp (disch := omega) only [↓wD, wU, simprocAttr]; refine hK _ _ ?_; clear hK K
  refine wf ?_
  refine w_skip ?_
  (with_reducible repeat first | apply q_n | apply q_e | apply q_r | apply bq_n | apply bq_e | apply bq_r | apply bq_o rfl)
  refine w_reg fun K hK => ?_
  simp (disch := omega) only [↓wD, wU, simprocAttr, hsrc]
  refine app_row (M := fun x => x = H.size) (css := []) (k := 3) (new := css) (bytes := 40) (v := .slice (some ⟨H.size, 0, none⟩) 0 0) Row.empty (by rintro x rfl; simp) (fun cs hcs => ?_) rfl (by decide) (by simp; omega) ?_ rfl
  ·obtain ⟨i, hi, rfl⟩ := List.getElem_of_mem hcs
   exact ⟨(hel i hi (by omega)).2, (hel i hi (by omega)).1.one⟩
  ·intro v' H' hrow hkeep hsz
   simp only [↓wD, wU, simprocAttr]
   refine hK _ _ ?_
   clear hK K
   refine w_ret ?_; (with_reducible repeat first | apply q_n | apply q_e | apply q_r | apply bq_n | apply bq_e | apply bq_r | apply bq_o rfl); refine ret1 (by (try simp only [wL, Nat.reduceBEq]); rfl) ?_
   have hs : H.size + 1 ≤ H'.size := by have := hkeep.1; simpa using this
   refine ⟨?_, by omega, fun b hb => ?_⟩
   ·refine SlP.mono (H := H') (hrow.lt.slp (l := l) (by simpa using hlen) (by unfold big; omega) fun i hi hl => (hel i (by simpa using hi) hl).1) ?_ (fun _ _ _ => rfl) (fun _ _ _ h => h)
    rintro b ⟨h1 | h1, h2⟩
    ·omega
    ·simp at h1; omega
   ·rw [hkeep.2 b (by simp; omega) (by omega), Array.getElem?_push, if_neg (by omega)]
theorem as_1 {H : Hp} {b o c : Nat} : appSrc H 7 (.slice (some ⟨b, o, none⟩) 1 c) = (rdn H b o 7).map fun l => (1, l) := nrfl rfl
/-- Not too large. -/
def Sm (l : List Hd) : Prop := l.length ≤ 1048576 ∧ ∀ h ∈ l, h.acts.length ≤ 1048576 ∧ h.reads.length ≤ 1048576
/-- Holds in memory of their own. -/
def FreshIn (n : Nat) (H' : Hp) (v : Value) (l : List Hd) : Prop := ∃ M G : Nat → Prop, (∀ x, M x → ¬ G x) ∧ (∀ x, M x ∨ G x → n ≤ x ∧ x < H'.size) ∧ RowHd M G H' v l
def Fresh (H : Hp) (v : Value) (l : List Hd) (H' : Hp) : Prop := Ext H H' ∧ FreshIn H.size H' v l
theorem own_cl {S : Nat → Prop} {H : Hp} {v : Value} {l : List Hd} (hv : HdSl S H v l) (hs : Sm l) : Cl Tryz.prog 53 [v] H fun r H' => Fresh H r l H' := by
 refine cl_of mixed c_holds_own (Nat.le_of_ble_eq_true rfl) ?_
 simp only [fwp, ir_holds_own, argF, Nat.reduceAdd]
 obtain ⟨a, c, rfl, hc, hl, hel⟩ := SlP.open hv
 clear hv
 refine w_reg fun K hK => ?_; simp (disch := omega) only [↓wD, wU, simprocAttr]; refine hK _ _ ?_; clear hK K
 refine w_reg fun K hK => ?_; simp (disch := omega) only [↓wD, wU, simprocAttr]; refine hK _ _ ?_; clear hK K
 refine w_seq (w_seq ?_)
 refine w_reg fun K hK => ?_; simp (disch := omega) only [↓wD, wU, simprocAttr]; refine hK _ _ ?_; clear hK K
 refine w_blk (w_loop (fun n f H' => Ext H H' ∧ f 6 = .slice a l.length c ∧ f 7 = .int .i64 l.length ∧ ∃ (i : Nat) (vo : Value), f 8 = .int .i64 i ∧ i ≤ l.length ∧ f 3 = vo ∧ (∃ M G : Nat → Prop, (∀ x, M x → ¬ G x) ∧ (∀ x, M x ∨ G x → H.size ≤ x ∧ x < H'.size) ∧ RowHd M G H' vo (l.take i)) ∧ n = l.length - i) _ ⟨Ext.refl _, (by simp only [wL, Nat.reduceBEq]), (by simp only [wL, Nat.reduceBEq]), 0, _, rfl, Nat.zero_le _, rfl, ⟨fun _ => False, fun _ => False, by simp, by simp, RowHd.nil⟩, rfl⟩ ?_)
 rintro n f H' ⟨hE, f6, f7, i, vo, f8, hi, f3, ⟨M, G, hMG, hlt, hrow⟩, rfl⟩
 by_cases hil : i < l.length
 ·obtain ⟨b, o, rfl, hSb, cs, hcs, va, vr, rfl, ha, hr, hnm, hsk, hsv⟩ := hel i hil
  have hcs' := rdn_ext hE hcs
  have hmem := hs.2 _ (List.getElem_mem hil)
  obtain ⟨xa, ca, rfl, hca, -⟩ := ha.form
  obtain ⟨xr, cr, rfl, hcr, -⟩ := hr.form
  refine w_reg fun K hK => ?_; simp (disch := omega) only [↓wD, wU, simprocAttr, f7, f8, hil]; refine hK _ _ ?_; clear hK K
  refine w_seq ?_
  refine wt ?_
  refine w_skip ?_
  (with_reducible repeat first | apply q_n | apply q_e | apply q_r | apply bq_n | apply bq_e | apply bq_r | apply bq_o rfl)
  refine w_seq (w_blk ?_)
  refine w_reg fun K hK => ?_; simp (disch := omega) only [↓wD, wU, simprocAttr, f6, f8, hil, hcs']; refine hK _ _ ?_; clear hK K
  generalize hH0 : H'.push (.cells #[.string l[i].key, .int .i64 l[i].name.client, .int .i64 l[i].name.num, .slice xa l[i].acts.length ca, .slice xr l[i].reads.length cr, .bool l[i].put, .string l[i].value] 35) = H0
  have hE0 : Ext H' H0 := by subst hH0; exact (Ext.refl _).push _
  have hc0 : rdn H0 H'.size 0 7 = some [.string l[i].key, .int .i64 l[i].name.client, .int .i64 l[i].name.num, .slice xa l[i].acts.length ca, .slice xr l[i].reads.length cr, .bool l[i].put, .string l[i].value] := by subst hH0; exact rdn_new H' _ 35 0 7 (Nat.le_refl _)
  have hf0 : ∀ j, frz H0 H'.size j = false := by subst hH0; exact fun j => frz_new H' [.string l[i].key, .int .i64 l[i].name.client, .int .i64 l[i].name.num, .slice xa l[i].acts.length ca, .slice xr l[i].reads.length cr, .bool l[i].put, .string l[i].value] 35 j
  obtain ⟨c0, c1, c2, c3, c4, c5, c6⟩ := rdn7 hc0
  have hlt0 := cell_lt c0
  clear hH0
  refine w_lin (fun b => b = H'.size) fun K hK => ?_
  simp (disch := omega) only [↓l_nil, ↓l_f, ↓l_t, ↓o_s, ↓o_e, ↓o_g, ↓o_ge, ↓k_ld, ↓k_ldn, isemS, ↓wD, wU, simprocAttr, c3, c4]
  refine w_call (cloneAct_cl (ha.ext (hE.trans hE0)) hmem.1) ?_
  rintro _ H1 ⟨hva, hE1⟩
  obtain ⟨ya, da, rfl, hda, -⟩ := hva.form
  simp (disch := omega) only [↓l_nil, ↓l_f, ↓l_t, ↓o_s, ↓o_e, ↓o_g, ↓o_ge, ↓k_ld, ↓k_ldn, isemS, ↓wD, wU, simprocAttr]
  refine ⟨hE1.on _, ?_⟩
  refine w_call (cloneRead_cl (hr.ext ((hE.trans hE0).trans hE1)) hmem.2) ?_
  rintro _ H2 ⟨hvr, hE2⟩
  obtain ⟨yr, dr, rfl, hdr, -⟩ := hvr.form
  have hx := fun j => (hE2.cell H'.size j (Nat.lt_of_lt_of_le hlt0 hE1.size)).trans (hE1.cell H'.size j hlt0)
  have hfx : ∀ j, frz H2 H'.size j = false := fun j => by
   rw [frz_block (hE2.2 _ (Nat.lt_of_lt_of_le hlt0 hE1.size)), frz_block (hE1.2 _ hlt0)]; exact hf0 j
  have d0 := (hx 0).trans c0
  have d1 := (hx (0 + 1)).trans c1
  have d2 := (hx (0 + 2)).trans c2
  have d3 := (hx (0 + 3)).trans c3
  have d4 := (hx (0 + 4)).trans c4
  have d5 := (hx (0 + 5)).trans c5
  have d6 := (hx (0 + 6)).trans c6
  clear hx
  simp (disch := omega) only [↓l_nil, ↓l_f, ↓l_t, ↓o_s, ↓o_e, ↓o_g, ↓o_ge, ↓k_ld, ↓k_ldn, isemS, ↓wD, wU, simprocAttr, d3, d4, hfx, cell_putc, frz_putc]
  refine ⟨hE2.on _, ?_⟩
  refine hK _ _ ?_
  clear hK K
  have htake : l.take (i + 1) = l.take i ++ [l[i]] := by
   rw [List.take_add_one, List.getElem?_eq_getElem hil]; rfl
  obtain ⟨xo, no, co, evo⟩ : ∃ a n c, vo = .slice a n c := by
   obtain ⟨css, ⟨_, ⟨e, _⟩ | ⟨b, c, e, _⟩⟩, _⟩ := hrow
   ·exact ⟨_, _, _, e⟩
   ·exact ⟨_, _, _, e⟩
  have evo' := f3.trans evo
  have hs2 : H'.size < H2.size := Nat.lt_of_lt_of_le hlt0 (Nat.le_trans hE1.size hE2.size)
  refine w_reg1 fun K hK => ?_
  simp (disch := omega) only [↓wD, wU, simprocAttr, evo', d0, d1, d2, d3, d4, d5, d6, hfx, cell_putc, frz_putc, as_1]
  have hEB : Ext H' ((putc (putc H2 H'.size 3 (.slice ya l[i].acts.length da)) H'.size 4 (.slice yr l[i].reads.length dr)).push (.cells #[.string l[i].key, .int .i64 l[i].name.client, .int .i64 l[i].name.num, .slice ya l[i].acts.length da, .slice yr l[i].reads.length dr, .bool l[i].put, .string l[i].value] 35)) := by
   refine Ext.push (Ext.putc (Ext.putc ((hE0.trans hE1).trans hE2) (Nat.le_refl _) _ _) (Nat.le_refl _) _ _) _
  refine app1 (G2 := fun x => H'.size < x ∧ x < H2.size) (h := l[i]) hrow hMG (fun x hx => (hlt x hx).2) hEB ⟨_, _, rfl, ?_, ?_, hnm, hsk, hsv⟩ (fun x hx hM => by have := (hlt x (.inl hM)).2; omega) (by rw [List.length_take]; have := hs.1; omega) ?_ evo
  ·refine SlP.mono hva (fun x hx => ⟨by omega, Nat.lt_of_lt_of_le hx.2 hE2.size⟩) (fun x hx hx' => ?_) (fun _ _ _ h => h)
   rw [Array.getElem?_push, if_neg (by simp only [putc_size]; have := hE2.size; omega), putc_ne (by omega), putc_ne (by omega)]
   exact hE2.2 x hx'
  ·refine SlP.mono hvr (fun x hx => ⟨by have := hE1.size; omega, hx.2⟩) (fun x hx hx' => ?_) (fun _ _ _ h => h)
   rw [Array.getElem?_push, if_neg (by simp only [putc_size]; omega), putc_ne (by have := hE1.size; omega), putc_ne (by have := hE1.size; omega)]
  ·intro v' H4 hrow' hkeep
   simp only [Array.size_push, putc_size] at hrow'
   have hs4 := hkeep.1
   simp only [Array.size_push, putc_size] at hs4
   simp (disch := omega) only [↓wD, wU, simprocAttr]
   refine hK _ _ ?_
   clear hK K
   (with_reducible repeat first | apply q_n | apply q_e | apply q_r | apply bq_n | apply bq_e | apply bq_r | apply bq_o rfl)
   refine w_reg1 fun K hK => ?_; simp (disch := omega) only [↓wD, wU, simprocAttr, f8]; refine hK _ _ ?_; clear hK K
   (with_reducible repeat first | apply q_n | apply q_e | apply q_r | apply bq_n | apply bq_e | apply bq_r | apply bq_o rfl)
   refine ⟨l.length - (i + 1), by omega, ⟨by have := hE.size; omega, fun b hb => ?_⟩, (by simp only [wL, Nat.reduceBEq, f6]), (by simp only [wL, Nat.reduceBEq, f7]), i + 1, v', (by simp only [wL, Nat.reduceBEq]), by omega, (by simp only [wL, Nat.reduceBEq]), ⟨_, _, ?_, ?_, by rw [htake]; exact hrow'⟩, rfl⟩
   ·have := hE.size
    rw [hkeep.2 b (by simp only [Array.size_push, putc_size]; omega) (fun hM => by have := (hlt b (.inl hM)).1; omega), hEB.2 b (by omega), hE.2 b hb]
   ·rintro x ⟨hx | hx, hx2⟩
    ·rintro (hg | hg)
     ·exact hMG x hx hg
     ·have := (hlt x (.inl hx)).2; omega
    ·rintro (hg | hg)
     ·have := (hlt x (.inr hg)).2; omega
     ·omega
   ·have := hE.size
    rintro x (⟨hx | hx, hx2⟩ | hx | hx)
    ·exact ⟨(hlt x (.inl hx)).1, hx2⟩
    ·exact ⟨by omega, hx2⟩
    ·have := hlt x (.inr hx); omega
    ·omega
 ·refine w_reg fun K hK => ?_; simp (disch := omega) only [↓wD, wU, simprocAttr, f7, f8, hil]; refine hK _ _ ?_; clear hK K
  refine w_seq ?_
  refine wf ?_
  refine w_exit ?_
  (with_reducible repeat first | apply q_n | apply q_e | apply q_r | apply bq_n | apply bq_e | apply bq_r | apply bq_o rfl)
  have : l.take i = l := List.take_of_length_le (by omega)
  rw [this] at hrow
  refine w_reg fun K hK => ?_; simp (disch := omega) only [↓wD, wU, simprocAttr, f3]; refine hK _ _ ?_; clear hK K
  refine w_ret ?_; (with_reducible repeat first | apply q_n | apply q_e | apply q_r | apply bq_n | apply bq_e | apply bq_r | apply bq_o rfl); refine ret1 (by (try simp only [wL, Nat.reduceBEq]); rfl) ?_
  exact ⟨hE, M, G, hMG, hlt, hrow⟩
end Go.WK
/-
 A table's row: those that are so; without those.
-/
namespace Go.WK
open Go Go.Proofs

/-- A table: p is its block, M its row's block, G the blocks within. -/
structure Tab (M G : Nat → Prop) (H : Hp) (p : Nat) (L : List Hd) (v : Value) : Prop where
 c0 : cell H p 0 = some v
 c1 : cell H p 1 = some (.bool true)
 fz : frz H p 0 = false
 row : RowHd M G H v L
 pM : ¬ M p
 pG : ¬ G p
 dis : ∀ x, M x → ¬ G x
 lt : ∀ x, M x ∨ G x → x < H.size
theorem RowHd.form {M G : Nat → Prop} {H : Hp} {v : Value} {l : List Hd} (h : RowHd M G H v l) : ∃ a c, v = .slice a l.length c ∧ ∀ i (hi : i < l.length), ∃ b, a = some ⟨b, 0, none⟩ ∧ ∃ cs, rdn H b (i * 7) 7 = some cs ∧ ElHd G H cs l[i] := by
 obtain ⟨css, ⟨_, ⟨rfl, rfl⟩ | ⟨b, c, rfl, h1, h2, h3, h4, h5⟩⟩, hl, hel⟩ := h
 ·refine ⟨none, 0, by rw [← hl]; rfl, fun i hi => ?_⟩
  rw [← hl] at hi
  simp at hi
 ·exact ⟨_, c, by rw [hl], fun i hi => ⟨b, rfl, css[i], h5 i (by omega), hel i (by omega) hi⟩⟩
/-- A function value answers q at holds, whatever has been changed in M's blocks. -/
def FnR (P : Program) (M G : Nat → Prop) (H : Hp) (v : Value) (q : Hd → Bool) : Prop :=
 ∃ f first cap, v = .func (.func f) first cap ∧ ∀ H', KeepOn (fun x => ¬ M x) H H' → ∀ cs a, ElHd G H' cs a → Cl P f (first.toList ++ [.agg cs.toArray] ++ cap.toList) H' fun r H'' => r = .bool (q a) ∧ Ext H' H''
theorem FnR.on {P : Program} {M G : Nat → Prop} {H : Hp} {v : Value} {q : Hd → Bool} (h : FnR P M G H v q) (L : List Hd) : FnOn P H (ElHd G H) v q L := by
 obtain ⟨f, first, cap, e, h⟩ := h
 exact ⟨f, first, cap, e, fun H' hE a _ cs he => h H' (hE.on _) cs a (he.ext hE)⟩
theorem Fresh.pre {A B C : Hp} {v : Value} {l : List Hd} (h : Fresh B v l C) (hE : Ext A B) : Fresh A v l C := by
 obtain ⟨h1, M, G, h2, h3, h4⟩ := h
 exact ⟨hE.trans h1, M, G, h2, fun x hx => ⟨Nat.le_trans hE.size (h3 x hx).1, (h3 x hx).2⟩, h4⟩
theorem Sm.filter {l : List Hd} (h : Sm l) (q : Hd → Bool) : Sm (l.filter q) := ⟨Nat.le_trans (List.length_filter_le _ _) h.1, fun x hx => h.2 x (List.mem_filter.1 hx).1⟩

theorem those_cl {M G : Nat → Prop} {H : Hp} {p : Nat} {L : List Hd} {v fv : Value} {q : Hd → Bool} (hT : Tab M G H p L v) (hs : Sm L) (hf : FnOn Tryz.prog H (ElHd G H) fv q L) : Cl Tryz.prog 49 [.pointer (some ⟨p, 0, none⟩), fv] H fun r H' => Fresh H r (L.filter q) H' := by
 refine cl_of mixed c_holds_row_those (Nat.le_of_ble_eq_true rfl) ?_
 simp only [fwp, ir_holds_row_those, argF, Nat.reduceAdd]
 obtain ⟨g, first, cap, rfl, hf⟩ := hf
 obtain ⟨a, c, rfl, hel⟩ := hT.row.form
 have hc0 := hT.c0
 have hs1 := hs.1
 refine w_reg fun K hK => ?_; simp (disch := omega) only [↓wD, wU, simprocAttr]; refine hK _ _ ?_; clear hK K
 refine w_reg fun K hK => ?_; simp (disch := omega) only [↓wD, wU, simprocAttr]; refine hK _ _ ?_; clear hK K
 refine w_seq (w_seq ?_)
 refine w_reg fun K hK => ?_; simp (disch := omega) only [↓wD, wU, simprocAttr, hc0]; refine hK _ _ ?_; clear hK K
 refine w_blk (w_loop (fun n f H' => Ext H H' ∧ f 1 = .func (.func g) first cap ∧ f 11 = .slice a L.length c ∧ f 12 = .int .i64 L.length ∧ ∃ (i : Nat) (vo : Value), f 13 = .int .i64 i ∧ i ≤ L.length ∧ f 5 = vo ∧ (∃ Mo : Nat → Prop, (∀ x, Mo x → H.size ≤ x ∧ x < H'.size) ∧ RowHd Mo G H' vo ((L.take i).filter q)) ∧ n = L.length - i) _ ⟨Ext.refl _, (by simp only [wL, Nat.reduceBEq]), (by simp only [wL, Nat.reduceBEq]), (by simp only [wL, Nat.reduceBEq]), 0, _, rfl, Nat.zero_le _, rfl, ⟨fun _ => False, by simp, RowHd.nil⟩, rfl⟩ ?_)
 rintro n f H' ⟨hE, f1, f11, f12, i, vo, f13, hi, f5, ⟨Mo, hMo, hrow⟩, rfl⟩
 by_cases hil : i < L.length
 ·obtain ⟨b, rfl, cs, hcs, he⟩ := hel i hil
  have hcs' := rdn_ext hE hcs
  have hl7 := he.len
  have htake : L.take (i + 1) = L.take i ++ [L[i]] := by
   rw [List.take_add_one, List.getElem?_eq_getElem hil]; rfl
  have he' := he
  obtain ⟨va, vr, rfl, ha, hr, hnm, hsk, hsv⟩ := he'
  obtain ⟨xa, ca, rfl, hca, -⟩ := ha.form
  obtain ⟨xr, cr, rfl, hcr, -⟩ := hr.form
  refine w_reg fun K hK => ?_; simp (disch := omega) only [↓wD, wU, simprocAttr, f12, f13, hil]; refine hK _ _ ?_; clear hK K
  refine w_seq ?_
  refine wt ?_
  refine w_skip ?_
  (with_reducible repeat first | apply q_n | apply q_e | apply q_r | apply bq_n | apply bq_e | apply bq_r | apply bq_o rfl)
  refine w_seq (w_blk ?_)
  refine w_reg fun K hK => ?_; simp (disch := omega) only [↓wD, wU, simprocAttr, f11, f13, hil, hcs']; refine hK _ _ ?_; clear hK K
  generalize hH0 : H'.push (.cells #[.string L[i].key, .int .i64 L[i].name.client, .int .i64 L[i].name.num, .slice xa L[i].acts.length ca, .slice xr L[i].reads.length cr, .bool L[i].put, .string L[i].value] 35) = H0
  have hE0 : Ext H' H0 := by subst hH0; exact (Ext.refl _).push _
  have hr0 : rdn H0 H'.size 0 7 = some [.string L[i].key, .int .i64 L[i].name.client, .int .i64 L[i].name.num, .slice xa L[i].acts.length ca, .slice xr L[i].reads.length cr, .bool L[i].put, .string L[i].value] := by subst hH0; exact rdn_new H' _ 35 0 7 (Nat.le_refl _)
  have hlt0 := cell_lt (rdn7 hr0).1
  clear hH0
  refine w_reg fun K hK => ?_
  simp (disch := omega) only [↓wD, wU, simprocAttr, f1, hr0]
  refine w_call (hf _ (hE.trans hE0) _ (List.getElem_mem hil) _ he) ?_
  rintro _ H1 ⟨rfl, hE1⟩
  simp (disch := omega) only [↓wD, wU, simprocAttr]
  refine hK _ _ ?_
  clear hK K
  have hr1 := rdn_ext hE1 hr0
  obtain ⟨xo, no, co, evo⟩ : ∃ a n c, vo = .slice a n c := by
   obtain ⟨css, ⟨_, ⟨e, _⟩ | ⟨b, c, e, _⟩⟩, _⟩ := hrow
   ·exact ⟨_, _, _, e⟩
   ·exact ⟨_, _, _, e⟩
  have evo' := f5.trans evo
  cases hq : q L[i] with
  | true =>
   refine w_true (by simp only [wL, Nat.reduceBEq, Bool.not_true, Bool.not_false, hq]) ?_
   refine w_reg1 fun K hK => ?_
   simp (disch := omega) only [↓wD, wU, simprocAttr, evo', hr1, as_1]
   have hEB : Ext H' (H1.push (.cells #[.string L[i].key, .int .i64 L[i].name.client, .int .i64 L[i].name.num, .slice xa L[i].acts.length ca, .slice xr L[i].reads.length cr, .bool L[i].put, .string L[i].value] 35)) := (hE0.trans hE1).push _
   refine app1 (G2 := G) (h := L[i]) hrow (fun x hx hg => ?_) (fun x hx => ?_) hEB (he.ext (hE.trans hEB)) (fun x hg hx => ?_) ?_ ?_ evo
   ·have := (hMo x hx).1; have := hT.lt x (.inr hg); omega
   ·rcases hx with hx | hx
    ·exact (hMo x hx).2
    ·exact Nat.lt_of_lt_of_le (hT.lt x (.inr hx)) hE.size
   ·have := (hMo x hx).1; have := hT.lt x (.inr hg); omega
   ·refine Nat.le_trans (List.length_filter_le _ _) ?_
    rw [List.length_take]; omega
   ·intro v' H4 hrow' hkeep
    simp only [Array.size_push] at hrow'
    have hs4 := hkeep.1
    simp only [Array.size_push] at hs4
    simp (disch := omega) only [↓wD, wU, simprocAttr]
    refine hK _ _ ?_
    clear hK K
    (with_reducible repeat first | apply q_n | apply q_e | apply q_r | apply bq_n | apply bq_e | apply bq_r | apply bq_o rfl)
    refine w_reg1 fun K hK => ?_; simp (disch := omega) only [↓wD, wU, simprocAttr, f13]; refine hK _ _ ?_; clear hK K
    (with_reducible repeat first | apply q_n | apply q_e | apply q_r | apply bq_n | apply bq_e | apply bq_r | apply bq_o rfl)
    have hz1 := hE1.size
    refine ⟨L.length - (i + 1), by omega, ⟨by have := hE.size; omega, fun b hb => ?_⟩, (by simp only [wL, Nat.reduceBEq, f1]), (by simp only [wL, Nat.reduceBEq, f11]), (by simp only [wL, Nat.reduceBEq, f12]), i + 1, v', (by simp only [wL, Nat.reduceBEq]), by omega, (by simp only [wL, Nat.reduceBEq]), ⟨_, ?_, by rw [htake, List.filter_append]; simp only [List.filter_cons, hq, if_true, List.filter_nil]; exact hrow'.mono (fun _ h => h) (fun b hb => hb.elim id id) (Nat.le_refl _) fun _ _ _ => rfl⟩, rfl⟩
    ·have := hE.size
     rw [hkeep.2 b (by simp only [Array.size_push]; omega) (fun hM => by have := (hMo b hM).1; omega), hEB.2 b (by omega), hE.2 b hb]
    ·have := hE.size
     rintro x ⟨hx | hx, hx2⟩
     ·exact ⟨(hMo x hx).1, hx2⟩
     ·exact ⟨by omega, hx2⟩
  | false =>
   refine w_false (by simp only [wL, Nat.reduceBEq, Bool.not_true, Bool.not_false, hq]) ?_
   refine w_skip ?_
   (with_reducible repeat first | apply q_n | apply q_e | apply q_r | apply bq_n | apply bq_e | apply bq_r | apply bq_o rfl)
   refine w_reg1 fun K hK => ?_; simp (disch := omega) only [↓wD, wU, simprocAttr, f13]; refine hK _ _ ?_; clear hK K
   (with_reducible repeat first | apply q_n | apply q_e | apply q_r | apply bq_n | apply bq_e | apply bq_r | apply bq_o rfl)
   have hEB := hE0.trans hE1
   refine ⟨L.length - (i + 1), by omega, hE.trans hEB, (by simp only [wL, Nat.reduceBEq, f1]), (by simp only [wL, Nat.reduceBEq, f11]), (by simp only [wL, Nat.reduceBEq, f12]), i + 1, vo, (by simp only [wL, Nat.reduceBEq]), by omega, (by simp only [wL, Nat.reduceBEq, f5]), ⟨Mo, fun x hx => ⟨(hMo x hx).1, Nat.lt_of_lt_of_le (hMo x hx).2 hEB.size⟩, ?_⟩, rfl⟩
   rw [htake, List.filter_append]
   simp only [List.filter_cons, hq, Bool.false_eq_true, if_false, List.filter_nil, List.append_nil]
   exact hrow.mono (fun _ h => h) (fun _ h => h) hEB.size fun b _ hb => hEB.2 b hb
 ·refine w_reg fun K hK => ?_; simp (disch := omega) only [↓wD, wU, simprocAttr, f12, f13, hil]; refine hK _ _ ?_; clear hK K
  refine w_seq ?_
  refine wf ?_
  refine w_exit ?_
  (with_reducible repeat first | apply q_n | apply q_e | apply q_r | apply bq_n | apply bq_e | apply bq_r | apply bq_o rfl)
  have : L.take i = L := List.take_of_length_le (by omega)
  rw [this] at hrow
  refine w_reg fun K hK => ?_
  simp (disch := omega) only [↓wD, wU, simprocAttr, f5]
  have hsf := hs.filter q
  refine w_call (own_cl (hrow.slp (by have := hsf.1; unfold big; omega)) hsf) ?_
  rintro _ H1 hF
  simp (disch := omega) only [↓wD, wU, simprocAttr]
  refine hK _ _ ?_
  clear hK K
  refine w_ret ?_; (with_reducible repeat first | apply q_n | apply q_e | apply q_r | apply bq_n | apply bq_e | apply bq_r | apply bq_o rfl); refine ret1 (by (try simp only [wL, Nat.reduceBEq]); rfl) ?_
  exact hF.pre hE
theorem fIdx_any {α : Type} {p : α → Bool} {l : List α} : (fIdx p l = -1 ∧ ∀ x ∈ l, p x = false) ∨ ∃ i : Nat, fIdx p l = i ∧ ∃ hi : i < l.length, p l[i] = true ∧ ∀ j (hj : j < l.length), j < i → p l[j] = false := by
 cases h : l.findIdx? p with
 | none => exact .inl ⟨by simp [fIdx, h], List.findIdx?_eq_none_iff.1 h⟩
 | some i =>
  obtain ⟨hi, hp, hl⟩ := List.findIdx?_eq_some_iff_getElem.1 h
  exact .inr ⟨i, by simp [fIdx, h], hi, hp, fun j hj hji => by simpa using hl j hji⟩
theorem delete_cl {M G : Nat → Prop} {H : Hp} {L : List Hd} {v fv : Value} {q : Hd → Bool} (hrow : RowHd M G H v L) (dis : ∀ x, M x → ¬ G x) (lt : ∀ x, M x ∨ G x → x < H.size) (hL : L.length ≤ 1048576) (hf : FnR Tryz.prog M G H fv q) : Cl Tryz.prog 113 [v, fv] H fun r H' => RowHd M G H' r (L.filter fun h => !q h) ∧ KeepOn (fun x => ¬ M x) H H' := by
 refine cl_of mixed c_slices_DeleteFunc_Hold (Nat.le_of_ble_eq_true rfl) ?_
 simp only [fwp, ir_slices_DeleteFunc_Hold, argF, Nat.reduceAdd]
 have hon := hf.on L
 obtain ⟨g, first, cap, rfl, hf⟩ := hf
 have hslp := hrow.slp (by unfold big; omega)
 have hrow' := hrow
 obtain ⟨css, ⟨hall, hv⟩, hlen, hel⟩ := hrow
 refine w_reg fun K hK => ?_; simp (disch := omega) only [↓wD, wU, simprocAttr]; refine hK _ _ ?_; clear hK K
 refine w_reg fun K hK => ?_
 simp (disch := omega) only [↓wD, wU, simprocAttr]
 have hslp' : SlP (fun x => M x ∨ G x) H 7 (ElHd G H) v L := by
  refine SlP.mono (H' := H) (Row.slp ⟨hall, hv⟩ hlen (by unfold big; omega) hel) (fun _ h => .inl h) (fun _ _ _ => rfl) fun _ _ _ h => h
 refine w_call (idxHold_cl hslp' hon) ?_
 rintro _ H1 ⟨rfl, hE⟩
 simp (disch := omega) only [↓wD, wU, simprocAttr]
 refine hK _ _ ?_
 clear hK K
 refine w_seq (w_seq ?_)
 rcases fIdx_any (p := q) (l := L) with ⟨hm, hno⟩ | ⟨i0, hm, hi0, hp0, hno⟩
 ·rw [hm]
  refine w_reg fun K hK => ?_; simp (disch := omega) only [↓wD, wU, simprocAttr]; refine hK _ _ ?_; clear hK K
  refine wt ?_
  refine w_reg fun K hK => ?_; simp (disch := omega) only [↓wD, wU, simprocAttr]; refine hK _ _ ?_; clear hK K
  refine w_ret ?_; (with_reducible repeat first | apply q_n | apply q_e | apply q_r | apply bq_n | apply bq_e | apply bq_r | apply bq_o rfl); refine ret1 (by (try simp only [wL, Nat.reduceBEq]); rfl) ?_
  refine ⟨?_, hE.on _⟩
  have : L.filter (fun h => !q h) = L := List.filter_eq_self.2 fun x hx => by simp [hno x hx]
  rw [this]
  exact hrow'.mono (fun _ h => h) (fun _ h => h) hE.size fun b _ hb => hE.2 b hb
 ·rw [hm]
  have hne : ((i0 : Int) = -1) = False := by simp
  refine w_reg fun K hK => ?_; simp (disch := omega) only [↓wD, wU, simprocAttr, hne]; refine hK _ _ ?_; clear hK K
  refine wf ?_
  refine w_skip ?_
  (with_reducible repeat first | apply q_n | apply q_e | apply q_r | apply bq_n | apply bq_e | apply bq_r | apply bq_o rfl)
  rcases hv with ⟨rfl, rfl⟩ | ⟨b, c, rfl, hc, hMb, hbs, ⟨hown, hfz⟩, hrd⟩
  ·rw [← hlen] at hi0; simp at hi0
  rw [hlen] at hc ⊢
  have hpre : (L.take (i0 + 1)).filter (fun h => !q h) = L.take i0 := by
   have : L.take (i0 + 1) = L.take i0 ++ [L[i0]] := by rw [List.take_add_one, List.getElem?_eq_getElem hi0]; rfl
   rw [this, List.filter_append]
   simp only [List.filter_cons, hp0, Bool.not_true, Bool.false_eq_true, if_false, List.filter_nil, List.append_nil]
   refine List.filter_eq_self.2 fun x hx => ?_
   obtain ⟨j, hj, rfl⟩ := List.getElem_of_mem hx
   rw [List.length_take] at hj
   rw [List.getElem_take]
   simp [hno j (by omega) (by omega)]
  refine w_seq (w_seq ?_)
  refine w_reg fun K hK => ?_; simp (disch := omega) only [↓wD, wU, simprocAttr]; refine hK _ _ ?_; clear hK K
  refine w_blk (w_loop (fun n f H' => KeepOn (fun x => ¬ M x) H H' ∧ f 0 = .slice (some ⟨b, 0, none⟩) L.length c ∧ f 1 = .func (.func g) first cap ∧ ∃ (i j : Nat), f 5 = .int .i64 i ∧ f 6 = .int .i64 j ∧ i < j ∧ j ≤ L.length ∧ (Own H' b 0 (c * 7) ∧ ∀ i, frz H' b i = false) ∧ ((L.take j).filter fun h => !q h).length = i ∧ (∃ fl : List (List Value), fl.length = i ∧ (∀ k (hk : k < fl.length), rdn H' b (k * 7) 7 = some fl[k]) ∧ ∀ k (hk : k < fl.length) (hk' : k < ((L.take j).filter fun h => !q h).length), ElHd G H' fl[k] ((L.take j).filter fun h => !q h)[k]) ∧ (∀ k (hk : k < css.length), j ≤ k → rdn H' b (k * 7) 7 = some css[k]) ∧ n = L.length - j) _ ⟨hE.on _, (by simp only [wL, Nat.reduceBEq]), (by simp only [wL, Nat.reduceBEq]), i0, i0 + 1, (by simp only [wL, Nat.reduceBEq]), (by simp only [wL, Nat.reduceBEq]), by omega, by omega, ?_, ?_, ?_, ?_, rfl⟩ ?_)
  ·exact ⟨Own_block (hE.2 b hbs) hown, fun i => by rw [frz_block (hE.2 b hbs)]; exact hfz i⟩
  ·rw [hpre, List.length_take]; omega
  ·refine ⟨css.take i0, by rw [List.length_take]; omega, fun k hk => ?_, fun k hk hk' => ?_⟩
   ·rw [List.length_take] at hk
    rw [List.getElem_take]
    exact rdn_ext hE (hrd k (by omega))
   ·have hk2 : k < css.length := by rw [List.length_take] at hk; omega
    have e2 : ((L.take (i0 + 1)).filter fun h => !q h)[k] = L[k]'(by omega) := by
     simp only [hpre, List.getElem_take]
    rw [e2, List.getElem_take]
    exact (hel k hk2 (by omega)).ext hE
  ·intro k hk _
   exact rdn_ext hE (hrd k hk)
  rintro n f H' ⟨hKe, f0, f1, i, j, f5, f6, hij, hj, ⟨hown', hfz'⟩, hcnt, ⟨fl, hfl, hfr, hfe⟩, hrest, rfl⟩
  refine w_seq (w_seq ?_)
  have hb' : b < H'.size := Nat.lt_of_lt_of_le hbs hKe.1
  by_cases hjl : j < L.length
  ·have hjc : j < css.length := by omega
   have hcs := hrest j hjc (Nat.le_refl _)
   have he : ElHd G H' css[j] L[j] := (hel j hjc hjl).mono (fun _ h => h) fun x hx hx' => hKe.2 x hx' fun hm => dis x hm hx
   have htake : L.take (j + 1) = L.take j ++ [L[j]] := by
    rw [List.take_add_one, List.getElem?_eq_getElem hjl]; rfl
   have he' := he
   obtain ⟨va, vr, ecs, ha, hr, hnm, hsk, hsv⟩ := he'
   obtain ⟨xa, ca, rfl, hca, -⟩ := ha.form
   obtain ⟨xr, cr, rfl, hcr, -⟩ := hr.form
   refine w_reg fun K hK => ?_; simp (disch := omega) only [↓wD, wU, simprocAttr, f0, f6, hjl]; refine hK _ _ ?_; clear hK K
   refine wt ?_
   refine w_skip ?_
   (with_reducible repeat first | apply q_n | apply q_e | apply q_r | apply bq_n | apply bq_e | apply bq_r | apply bq_o rfl)
   refine w_seq (w_blk ?_)
   have hcs0 := hcs
   rw [ecs] at hcs
   refine w_reg fun K hK => ?_; simp (disch := omega) only [↓wD, wU, simprocAttr, f0, f6, hjl, hcs]; refine hK _ _ ?_; clear hK K
   generalize hH0 : H'.push (.cells #[.string L[j].key, .int .i64 L[j].name.client, .int .i64 L[j].name.num, .slice xa L[j].acts.length ca, .slice xr L[j].reads.length cr, .bool L[j].put, .string L[j].value] 35) = H0
   have hE0 : Ext H' H0 := by subst hH0; exact (Ext.refl _).push _
   have hr0 : rdn H0 H'.size 0 7 = some css[j] := by rw [ecs]; subst hH0; exact rdn_new H' _ 35 0 7 (Nat.le_refl _)
   have hlt0 : H'.size < H0.size := by subst hH0; simp
   clear hH0
   refine w_reg fun K hK => ?_
   rw [ecs] at hr0
   simp (disch := omega) only [↓wD, wU, simprocAttr, f1, hr0]
   rw [← ecs]
   refine w_call (hf _ (hKe.trans (hE0.on _)) _ _ (he.ext hE0)) ?_
   rintro _ H1 ⟨rfl, hE1⟩
   simp (disch := omega) only [↓wD, wU, simprocAttr]
   refine hK _ _ ?_
   clear hK K
   have hr1 := rdn_ext hE1 hr0
   have hE01 := hE0.trans hE1
   cases hq : q L[j] with
   | true =>
    refine w_false (by simp only [wL, Nat.reduceBEq, Bool.not_true, Bool.not_false, hq]) ?_
    refine w_skip ?_
    (with_reducible repeat first | apply q_n | apply q_e | apply q_r | apply bq_n | apply bq_e | apply bq_r | apply bq_o rfl)
    refine w_reg1 fun K hK => ?_; simp (disch := omega) only [↓wD, wU, simprocAttr, f6]; refine hK _ _ ?_; clear hK K
    (with_reducible repeat first | apply q_n | apply q_e | apply q_r | apply bq_n | apply bq_e | apply bq_r | apply bq_o rfl)
    have hsame : (L.take (j + 1)).filter (fun h => !q h) = (L.take j).filter fun h => !q h := by
     rw [htake, List.filter_append]
     simp [hq]
    refine ⟨L.length - (j + 1), by omega, hKe.trans (hE01.on _), (by simp only [wL, Nat.reduceBEq, f0]), (by simp only [wL, Nat.reduceBEq, f1]), i, j + 1, (by simp only [wL, Nat.reduceBEq, f5]), (by simp only [wL, Nat.reduceBEq]), by omega, by omega, ⟨Own_block (hE01.2 b hb') hown', fun i => by rw [frz_block (hE01.2 b hb')]; exact hfz' i⟩, by rw [hsame]; exact hcnt, ⟨fl, hfl, fun k hk => rdn_ext hE01 (hfr k hk), fun k hk hk' => ?_⟩, fun k hk hk' => rdn_ext hE01 (hrest k hk (by omega)), rfl⟩
    simp only [hsame] at hk' ⊢
    exact (hfe k hk hk').ext hE01
   | false =>
    refine w_true (by simp only [wL, Nat.reduceBEq, Bool.not_true, Bool.not_false, hq]) ?_
    have hil : i < L.length := by omega
    have hiL : (i < L.length) = True := eq_true hil
    have h7 : css[j].length = 7 := he.len
    have hic : i * 7 + 7 ≤ c * 7 := by omega
    obtain ⟨H2, hw, hW⟩ := wrn_ok (H := H1) (b := b) (o := i * 7) (l := css[j]) ((Own_block (hE01.2 b hb') hown').sub (Nat.zero_le _) (by omega)) he.one
    rw [ecs] at hw
    refine w_seq ?_
    refine w_reg fun K hK => ?_; simp (disch := omega) only [↓wD, wU, simprocAttr, f0, f5, hr1, hiL, hw]; refine hK _ _ ?_; clear hK K
    refine w_reg1 fun K hK => ?_; simp (disch := omega) only [↓wD, wU, simprocAttr, f5]; refine hK _ _ ?_; clear hK K
    (with_reducible repeat first | apply q_n | apply q_e | apply q_r | apply bq_n | apply bq_e | apply bq_r | apply bq_o rfl)
    refine w_reg1 fun K hK => ?_; simp (disch := omega) only [↓wD, wU, simprocAttr, f6]; refine hK _ _ ?_; clear hK K
    (with_reducible repeat first | apply q_n | apply q_e | apply q_r | apply bq_n | apply bq_e | apply bq_r | apply bq_o rfl)
    have hsame : (L.take (j + 1)).filter (fun h => !q h) = ((L.take j).filter fun h => !q h) ++ [L[j]] := by
     rw [htake, List.filter_append]
     simp [hq]
    have hE2 : ∀ x, ¬ M x → x < H1.size → H2[x]? = H1[x]? := fun x hx _ => hW.other x (fun e => hx (e ▸ hMb))
    refine ⟨L.length - (j + 1), by omega, (hKe.trans (hE01.on _)).trans (hW.keep fun hn => hn hMb), (by simp only [wL, Nat.reduceBEq, f0]), (by simp only [wL, Nat.reduceBEq, f1]), i + 1, j + 1, (by simp only [wL, Nat.reduceBEq]), (by simp only [wL, Nat.reduceBEq]), by omega, by omega, ⟨hW.own (Own_block (hE01.2 b hb') hown'), fun i => by rw [hW.frz, frz_block (hE01.2 b hb')]; exact hfz' i⟩, by rw [hsame]; simp [hcnt], ⟨fl ++ [css[j]], by simp [hfl], fun k hk => ?_, fun k hk hk' => ?_⟩, fun k hk hk' => ?_, rfl⟩
    ·by_cases hki : k < fl.length
     ·rw [List.getElem_append_left hki]
      exact hW.rdn_off (.inl (by omega)) (rdn_ext hE01 (hfr k hki))
     ·have hk2 : k = i := by simp at hk; omega
      have e1 : (fl ++ [css[j]])[k]'hk = css[j] := by
       subst hk2; simp [← hfl]
      rw [e1, hk2]
      have := hW.rdn_at
      rwa [h7] at this
    ·have mono : ∀ {cs h}, ElHd G H' cs h → ElHd G H2 cs h := fun h => (h.ext hE01).mono (fun _ h => h) fun x hx hx' => hE2 x (fun hm => dis x hm hx) hx'
     by_cases hki : k < fl.length
     ·simp only [hsame]
      rw [List.getElem_append_left hki, List.getElem_append_left (by omega)]
      exact mono (hfe k hki (by omega))
     ·have hk2 : k = i := by simp at hk; omega
      have e1 : (fl ++ [css[j]])[k]'hk = css[j] := by
       subst hk2; simp [← hfl]
      have e2 : ((L.take (j + 1)).filter fun h => !q h)[k] = L[j] := by
       simp only [hsame]
       rw [List.getElem_append_right (by omega)]
       simp
      rw [e1, e2]
      exact mono he
    ·exact hW.rdn_off (.inr (by rw [h7]; omega)) (rdn_ext hE01 (hrest k hk (by omega)))
  ·refine w_reg fun K hK => ?_; simp (disch := omega) only [↓wD, wU, simprocAttr, f0, f6, hjl]; refine hK _ _ ?_; clear hK K
   refine wf ?_
   refine w_exit ?_
   (with_reducible repeat first | apply q_n | apply q_e | apply q_r | apply bq_n | apply bq_e | apply bq_r | apply bq_o rfl)
   have hjL : j = L.length := by omega
   have hfull : L.take j = L := List.take_of_length_le (by omega)
   have hci : (c = i) = False := by simp; omega
   have hc0 : (c = 0) = False := by simp; omega
   have hbd1 : bounds3 L.length c (some (.int .i64 (i : Int))) none none = some (i, L.length, c) := b3_10 (by rw [bd_ok (by omega) (by omega)]; simp)
   have hbd2 : bounds3 L.length c none (some (.int .i64 (i : Int))) none = some (0, i, c) := b3_01 (by rw [bd_ok (by omega) (by omega)]; simp)
   obtain ⟨H2, hw, hW⟩ := wrn_ok (H := H') (b := b) (o := i * 7) (l := zerosL zHold (L.length - i)) (hown'.sub (Nat.zero_le _) (by rw [zerosL_len]; simp; omega)) (zHold_one _)
   refine w_reg fun K hK => ?_
   simp (disch := omega) only [↓wD, wU, simprocAttr, f0, f5, hbd1, hci, i_clr, hw]
   refine hK _ _ ?_
   clear hK K
   refine w_reg fun K hK => ?_
   simp (disch := omega) only [↓wD, wU, simprocAttr, f0, f5, hbd2, hc0, Nat.sub_zero, Nat.zero_mul]
   refine hK _ _ ?_
   clear hK K
   refine w_ret ?_; (with_reducible repeat first | apply q_n | apply q_e | apply q_r | apply bq_n | apply bq_e | apply bq_r | apply bq_o rfl); refine ret1 (by (try simp only [wL, Nat.reduceBEq]); rfl) ?_
   rw [hfull] at hcnt hfe
   refine ⟨⟨fl, ⟨fun cs hcs => ?_, .inr ⟨b, c, by simp [hfl], by omega, hMb, by rw [hW.size]; exact hb', ⟨hW.own hown', fun i => by rw [hW.frz]; exact hfz' i⟩, fun k hk => ?_⟩⟩, by omega, fun k hk hk' => ?_⟩, hKe.trans (hW.keep fun hn => hn hMb)⟩
   ·obtain ⟨k, hk, rfl⟩ := List.getElem_of_mem hcs
    have := hfe k hk (by omega)
    exact ⟨this.len, this.one⟩
   ·exact hW.rdn_off (.inl (by omega)) (hfr k hk)
   ·exact (hfe k hk hk').mono (fun _ h => h) fun x hx hx' => hW.other x (fun e => dis x (e ▸ hMb) hx)
end Go.WK
/-
 Taking away; what functions ask.
-/
namespace Go.WK
open Go Go.Proofs

theorem FreshIn.keep {n : Nat} {A B : Hp} {v : Value} {l : List Hd} {K : Nat → Prop} (h : FreshIn n A v l) (hk : KeepOn K A B) (hK : ∀ x, n ≤ x → K x) : FreshIn n B v l := by
 obtain ⟨M, G, h1, h2, h3⟩ := h
 exact ⟨M, G, h1, fun x hx => ⟨(h2 x hx).1, Nat.lt_of_lt_of_le (h2 x hx).2 hk.1⟩, h3.mono (fun _ h => h) (fun _ h => h) hk.1 fun b hb hb' => hk.2 b hb' (hK b (h2 b hb).1)⟩
theorem RowHd.one {M G : Nat → Prop} {H : Hp} {v : Value} {l : List Hd} (h : RowHd M G H v l) : v.oneCell' = true ∧ v.cells = #[v] := by
 obtain ⟨css, ⟨_, ⟨rfl, _⟩ | ⟨b, c, rfl, _⟩⟩, _⟩ := h <;> exact ⟨rfl, rfl⟩
theorem less_cl {M G : Nat → Prop} {H : Hp} {p : Nat} {L : List Hd} {v fv : Value} {q : Hd → Bool} (hT : Tab M G H p L v) (hs : Sm L) (hf : FnR Tryz.prog M G H fv q) : Cl Tryz.prog 56 [.pointer (some ⟨p, 0, none⟩), fv] H fun r H' => FreshIn H.size H' r (L.filter q) ∧ KeepOn (fun x => ¬ M x ∧ x ≠ p) H H' ∧ ∃ v', Tab M G H' p (L.filter fun h => !q h) v' := by
 refine cl_of mixed c_holds_row_less (Nat.le_of_ble_eq_true rfl) ?_
 simp only [fwp, ir_holds_row_less, argF, Nat.reduceAdd]
 have hon := hf.on L
 have hp := cell_lt hT.c0
 refine w_reg fun K hK => ?_; simp (disch := omega) only [↓wD, wU, simprocAttr]; refine hK _ _ ?_; clear hK K
 refine w_reg fun K hK => ?_
 simp (disch := omega) only [↓wD, wU, simprocAttr]
 refine w_call (those_cl hT hs hon) ?_
 rintro _ H1 ⟨hE, hF⟩
 simp (disch := omega) only [↓wD, wU, simprocAttr]
 refine hK _ _ ?_
 clear hK K
 have c0 := (hE.cell p 0 hp).trans hT.c0
 have c1 := (hE.cell p 1 hp).trans hT.c1
 have hrow1 := hT.row.mono (M' := M) (G' := G) (fun _ h => h) (fun _ h => h) hE.size fun b _ hb => hE.2 b hb
 have hp1 := Nat.lt_of_lt_of_le hp hE.size
 refine w_reg fun K hK => ?_
 simp (disch := omega) only [↓wD, wU, simprocAttr, c0]
 have hf1 : FnR Tryz.prog M G H1 fv q := by
  obtain ⟨g, first, cap, e, h⟩ := hf
  exact ⟨g, first, cap, e, fun H' hk cs a he => h H' ((hE.on _).trans hk) cs a he⟩
 refine w_call (delete_cl hrow1 hT.dis (fun x hx => Nat.lt_of_lt_of_le (hT.lt x hx) hE.size) hs.1 hf1) ?_
 rintro _ H2 ⟨hrow2, hk2⟩
 have d0 : cell H2 p 0 = some v := (cell_block (hk2.2 p hp1 hT.pM) 0).trans c0
 have d1 : cell H2 p 1 = some (.bool true) := (cell_block (hk2.2 p hp1 hT.pM) 1).trans c1
 have dz : frz H2 p 0 = false := by rw [frz_block (hk2.2 p hp1 hT.pM), frz_block (hE.2 p hp)]; exact hT.fz
 rename_i r2
 obtain ⟨ra, rn, rc, er2⟩ : ∃ a n c, r2 = .slice a n c := by obtain ⟨a, c, e, _⟩ := hrow2.form; exact ⟨a, _, c, e⟩
 have hp2 := Nat.lt_of_lt_of_le hp1 hk2.1
 rw [er2]
 simp (disch := omega) only [↓wD, wU, simprocAttr, d0, dz]
 rw [← er2]
 refine hK _ _ ?_
 clear hK K
 refine w_reg fun K hK => ?_; simp (disch := omega) only [↓wD, wU, simprocAttr]; refine hK _ _ ?_; clear hK K
 refine w_ret ?_; (with_reducible repeat first | apply q_n | apply q_e | apply q_r | apply bq_n | apply bq_e | apply bq_r | apply bq_o rfl); refine ret1 (by (try simp only [wL, Nat.reduceBEq]); rfl) ?_
 have hW : KeepOn (fun x => x ≠ p) H2 (putc H2 p 0 r2) := ⟨by rw [putc_size]; exact Nat.le_refl _, fun b _ hb => putc_ne hb⟩
 have hkA : KeepOn (fun x => ¬ M x ∧ x ≠ p) H1 (putc H2 p 0 r2) := ⟨Nat.le_trans hk2.1 hW.1, fun b hb hx => (hW.2 b (Nat.lt_of_lt_of_le hb hk2.1) hx.2).trans (hk2.2 b hb hx.1)⟩
 refine ⟨hF.keep hkA fun x hx => ⟨fun hm => ?_, fun e => ?_⟩, (hE.on _).trans hkA, r2, ?_, ?_, ?_, ?_, hT.pM, hT.pG, hT.dis, fun x hx => ?_⟩
 ·have := hT.lt x (.inl hm); omega
 ·subst e; omega
 ·rw [cell_putc, if_pos ⟨rfl, rfl⟩, d0]; rfl
 ·rw [cell_putc, if_neg (by simp)]; exact d1
 ·rw [frz_putc]; exact dz
 ·exact hrow2.mono (fun _ h => h) (fun _ h => h) hW.1 fun b hb _ => hW.2 b (by assumption) (fun e => by subst e; exact hb.elim hT.pM hT.pG)
 ·rw [putc_size]
  exact Nat.lt_of_lt_of_le (hT.lt x hx) (Nat.le_trans hE.size hk2.1)

theorem index_cl {S : Nat → Prop} {H : Hp} {v : Value} {l : List ByteArray} (s : ByteArray) (hv : StrSl S H v l) : Cl Tryz.prog 114 [v, .string s] H fun r H' => r = .int .i64 (fIdx (fun x => decide (s = x)) l) ∧ H' = H := by
 refine cl_of mixed c_slices_Index_string (Nat.le_of_ble_eq_true rfl) ?_
 simp only [fwp, ir_slices_Index_string, argF, Nat.reduceAdd]
 obtain ⟨a, c, rfl, hc, hl, hel⟩ := SlP.open hv
 clear hv
 refine w_reg fun K hK => ?_; simp (disch := omega) only [↓wD, wU, simprocAttr]; refine hK _ _ ?_; clear hK K
 refine w_seq (w_seq ?_)
 refine w_reg fun K hK => ?_; simp (disch := omega) only [↓wD, wU, simprocAttr]; refine hK _ _ ?_; clear hK K
 refine w_blk (w_loop (fun n f H' => H' = H ∧ f 0 = .slice a l.length c ∧ f 1 = .string s ∧ f 7 = .int .i64 l.length ∧ ∃ (i : Nat), f 8 = .int .i64 i ∧ i ≤ l.length ∧ (∀ j (hj : j < l.length), j < i → decide (s = l[j]) = false) ∧ n = l.length - i) _ ⟨rfl, by simp only [wL, Nat.reduceBEq], by simp only [wL, Nat.reduceBEq], by simp only [wL, Nat.reduceBEq], 0, rfl, Nat.zero_le _, fun j hj h => by omega, rfl⟩ ?_)
 rintro n f H' ⟨rfl, f0, f1, f7, i, f8, hi, hno, rfl⟩
 by_cases hlt : i < l.length
 ·obtain ⟨b, o, rfl, hS, cs, hcs, rfl, hsz⟩ := hel i hlt
  have hcs' := rdn1 hcs
  rw [Nat.mul_one] at hcs'
  refine w_reg fun K hK => ?_; simp (disch := omega) only [↓wD, wU, simprocAttr, f7, f8, hlt]; refine hK _ _ ?_; clear hK K
  refine w_seq ?_
  refine wt ?_
  refine w_skip ?_
  (with_reducible repeat first | apply q_n | apply q_e | apply q_r | apply bq_n | apply bq_e | apply bq_r | apply bq_o rfl)
  refine w_seq (w_blk ?_)
  refine w_reg fun K hK => ?_; simp (disch := omega) only [↓wD, wU, simprocAttr, f8]; refine hK _ _ ?_; clear hK K
  by_cases hp : s = l[i]
  ·have hpT := eq_true hp
   refine w_reg fun K hK => ?_; simp (disch := omega) only [↓wD, wU, simprocAttr, f0, f1, f8, hlt, hcs', Nat.mul_one, hpT]; refine hK _ _ ?_; clear hK K
   refine wt ?_
   refine w_reg fun K hK => ?_; simp (disch := omega) only [↓wD, wU, simprocAttr]; refine hK _ _ ?_; clear hK K
   refine w_ret ?_; (with_reducible repeat first | apply q_n | apply q_e | apply q_r | apply bq_n | apply bq_e | apply bq_r | apply bq_o rfl); refine ret1 (by (try simp only [wL, Nat.reduceBEq]); rfl) ?_
   exact ⟨by rw [fIdx_some hlt hno (by simp [hp])], rfl⟩
  ·have hpF := eq_false hp
   refine w_reg fun K hK => ?_; simp (disch := omega) only [↓wD, wU, simprocAttr, f0, f1, f8, hlt, hcs', Nat.mul_one, hpF]; refine hK _ _ ?_; clear hK K
   refine wf ?_
   refine w_skip ?_
   (with_reducible repeat first | apply q_n | apply q_e | apply q_r | apply bq_n | apply bq_e | apply bq_r | apply bq_o rfl)
   refine w_reg1 fun K hK => ?_; simp (disch := omega) only [↓wD, wU, simprocAttr, f8]; refine hK _ _ ?_; clear hK K
   (with_reducible repeat first | apply q_n | apply q_e | apply q_r | apply bq_n | apply bq_e | apply bq_r | apply bq_o rfl)
   refine ⟨l.length - (i + 1), by omega, rfl, (by simp only [wL, Nat.reduceBEq, f0]), (by simp only [wL, Nat.reduceBEq, f1]), (by simp only [wL, Nat.reduceBEq, f7]), i + 1, (by simp only [wL, Nat.reduceBEq]), by omega, fun j hj h => ?_, rfl⟩
   by_cases hji : j = i
   ·subst hji; simp [hp]
   ·exact hno j hj (by omega)
 ·refine w_reg fun K hK => ?_; simp (disch := omega) only [↓wD, wU, simprocAttr, f7, f8, hlt]; refine hK _ _ ?_; clear hK K
  refine w_seq ?_
  refine wf ?_
  refine w_exit ?_
  (with_reducible repeat first | apply q_n | apply q_e | apply q_r | apply bq_n | apply bq_e | apply bq_r | apply bq_o rfl)
  refine w_reg fun K hK => ?_; simp (disch := omega) only [↓wD, wU, simprocAttr]; refine hK _ _ ?_; clear hK K
  refine w_ret ?_; (with_reducible repeat first | apply q_n | apply q_e | apply q_r | apply bq_n | apply bq_e | apply bq_r | apply bq_o rfl); refine ret1 (by (try simp only [wL, Nat.reduceBEq]); rfl) ?_
  exact ⟨by rw [fIdx_none fun j hj => hno j hj (by omega)], rfl⟩
theorem contain_cl {S : Nat → Prop} {H : Hp} {v : Value} {l : List ByteArray} (s : ByteArray) (hv : StrSl S H v l) : Cl Tryz.prog 58 [v, .string s] H fun r H' => r = .bool (l.any fun x => decide (s = x)) ∧ H' = H := by
 refine cl_of mixed c_slices_Contains_string (Nat.le_of_ble_eq_true rfl) ?_
 simp only [fwp, ir_slices_Contains_string, argF, Nat.reduceAdd]
 refine w_reg fun K hK => ?_; simp (disch := omega) only [↓wD, wU, simprocAttr]; refine hK _ _ ?_; clear hK K
 refine w_reg fun K hK => ?_
 simp (disch := omega) only [↓wD, wU, simprocAttr]
 refine w_call (index_cl s hv) ?_
 rintro _ _ ⟨rfl, rfl⟩
 simp (disch := omega) only [↓wD, wU, simprocAttr, fIdx_nneg]
 refine hK _ _ ?_
 clear hK K
 refine w_ret ?_; (with_reducible repeat first | apply q_n | apply q_e | apply q_r | apply bq_n | apply bq_e | apply bq_r | apply bq_o rfl); refine ret1 (by (try simp only [wL, Nat.reduceBEq]); rfl) ?_
 exact ⟨rfl, rfl⟩
/-- What Free asks. -/
theorem free_fn {M G S : Nat → Prop} {H : Hp} {k : Nat} {v : Value} {l : List ByteArray} (hk : cell H k 0 = some v) (hM : ¬ M k) (hv : StrSl S H v l) (hS : ∀ x, S x → ¬ M x) : FnR Tryz.prog M G H (.func (.func 57) #[] #[.pointer (some ⟨k, 0, none⟩)]) fun h => l.any fun x => decide (h.key = x) := by
 refine ⟨_, _, _, rfl, fun H' hkeep cs a he => ?_⟩
 obtain ⟨va, vr, rfl, -⟩ := he
 have hk' : cell H' k 0 = some v := (cell_block (hkeep.2 k (cell_lt hk) hM) 0).trans hk
 have hlt := cell_lt hk'
 have hv' : StrSl S H' v l := SlP.mono hv (fun _ h => h) (fun b hb hb' => hkeep.2 b hb' (hS b hb)) fun _ _ _ h => h
 show Cl _ _ [.agg _, .pointer _] _ _
 refine cl_of mixed c_holds_Holds_Free_1 (Nat.le_of_ble_eq_true rfl) ?_
 simp only [fwp, ir_holds_Holds_Free_1, argF, Nat.reduceAdd]
 refine w_reg fun K hK => ?_; simp (disch := omega) only [↓wD, wU, simprocAttr]; refine hK _ _ ?_; clear hK K
 refine w_reg fun K hK => ?_
 simp (disch := omega) only [↓wD, wU, simprocAttr, hk']
 refine w_call (contain_cl a.key (hv'.ext ((Ext.refl _).push _))) ?_
 rintro _ _ ⟨rfl, rfl⟩
 simp (disch := omega) only [↓wD, wU, simprocAttr]
 refine hK _ _ ?_
 clear hK K
 refine w_ret ?_; (with_reducible repeat first | apply q_n | apply q_e | apply q_r | apply bq_n | apply bq_e | apply bq_r | apply bq_o rfl); refine ret1 (by (try simp only [wL, Nat.reduceBEq]); rfl) ?_
 refine ⟨rfl, ?_⟩
 repeat (first | exact Ext.refl _ | assumption | (refine Ext.trans ?_ (by assumption)) | refine Ext.push ?_ _ | refine Ext.putc ?_ (by first | omega | (simp only [Array.size_push, putc_size]; omega)) _ _)
/-- What In and Take ask. -/
theorem in_fn {M G : Nat → Prop} {H : Hp} {k : Nat} {lo hi : ByteArray} (hk0 : cell H k 0 = some (.string lo)) (hk1 : cell H k (0 + 1) = some (.string hi)) (h1 : Sz lo) (h2 : Sz hi) (hM : ¬ M k) : FnR Tryz.prog M G H (.func (.func 50) #[] #[.pointer (some ⟨k, 0, none⟩)]) fun h => spHas lo hi h.key := by
 refine ⟨_, _, _, rfl, fun H' hkeep cs a he => ?_⟩
 obtain ⟨va, vr, rfl, -, -, -, h3, -⟩ := he
 have hb := hkeep.2 k (cell_lt hk0) hM
 have hk0' := (cell_block hb 0).trans hk0
 have hk1' := (cell_block hb (0 + 1)).trans hk1
 have hlt := cell_lt hk0'
 show Cl _ _ [.agg _, .pointer _] _ _
 refine cl_of mixed c_holds_Holds_In_1 (Nat.le_of_ble_eq_true rfl) ?_
 simp only [fwp, ir_holds_Holds_In_1, argF, Nat.reduceAdd]
 refine w_reg fun K hK => ?_; simp (disch := omega) only [↓wD, wU, simprocAttr]; refine hK _ _ ?_; clear hK K
 refine w_reg fun K hK => ?_
 simp (disch := omega) only [↓wD, wU, simprocAttr, hk0', hk1']
 refine w_call (spHas_cl lo hi a.key h1 h2 h3) ?_
 rintro _ H1 ⟨rfl, hE⟩
 simp (disch := omega) only [↓wD, wU, simprocAttr]
 refine hK _ _ ?_
 clear hK K
 refine w_ret ?_; (with_reducible repeat first | apply q_n | apply q_e | apply q_r | apply bq_n | apply bq_e | apply bq_r | apply bq_o rfl); refine ret1 (by (try simp only [wL, Nat.reduceBEq]); rfl) ?_
 refine ⟨rfl, ?_⟩
 repeat (first | exact Ext.refl _ | assumption | (refine Ext.trans ?_ (by assumption)) | refine Ext.push ?_ _ | refine Ext.putc ?_ (by first | omega | (simp only [Array.size_push, putc_size]; omega)) _ _)
end Go.WK
/-
 The place of a key.
-/
namespace Go.WK
open Go Go.Proofs

theorem at1_cl {G : Nat → Prop} {H : Hp} {cs : List Value} {a : Hd} (k : ByteArray) (he : ElHd G H cs a) : Cl Tryz.prog 105 [.agg cs.toArray, .string k] H fun r H' => r = .int .i64 (cmp3 a.key k) ∧ Ext H H' := by
 obtain ⟨va, vr, rfl, -⟩ := he
 refine cl_of mixed c_holds_row_at_1 (Nat.le_of_ble_eq_true rfl) ?_
 simp only [fwp, ir_holds_row_at_1, argF, Nat.reduceAdd]
 refine w_reg fun K hK => ?_; simp (disch := omega) only [↓wD, wU, simprocAttr]; refine hK _ _ ?_; clear hK K
 refine w_reg fun K hK => ?_
 simp (disch := omega) only [↓wD, wU, simprocAttr]
 refine w_call (Compare_cl a.key k) ?_
 rintro _ _ ⟨rfl, rfl⟩
 simp (disch := omega) only [↓wD, wU, simprocAttr]
 refine hK _ _ ?_
 clear hK K
 refine w_ret ?_; (with_reducible repeat first | apply q_n | apply q_e | apply q_r | apply bq_n | apply bq_e | apply bq_r | apply bq_o rfl); refine ret1 (by (try simp only [wL, Nat.reduceBEq]); rfl) ?_
 refine ⟨rfl, ?_⟩
 repeat (first | exact Ext.refl _ | assumption | (refine Ext.trans ?_ (by assumption)) | refine Ext.push ?_ _ | refine Ext.putc ?_ (by first | omega | (simp only [Array.size_push, putc_size]; omega)) _ _)

def Sorted (L : List Hd) : Prop := L.Pairwise fun a b => sless a.key b.key = true
theorem Sorted.get {L : List Hd} (h : Sorted L) {i j : Nat} (hi : i < L.length) (hj : j < L.length) (hij : i < j) : sless L[i].key L[j].key = true := List.pairwise_iff_getElem.1 h i j hi hj hij
def hasK (L : List Hd) (key : ByteArray) : Bool := L.any fun h => decide (h.key = key)
/-- m is the place of a key. -/
structure Place (L : List Hd) (key : ByteArray) (m : Nat) : Prop where
 le : m ≤ L.length
 lo : ∀ k (hk : k < L.length), k < m → sless L[k].key key = true
 hi : ∀ k (hk : k < L.length), m ≤ k → sless L[k].key key = false
theorem cmp3_lt (a b : ByteArray) : decide (cmp3 a b < 0) = sless a b := by
 unfold cmp3
 cases h1 : sless a b with
 | true => simp
 | false => cases sless b a <;> simp
theorem cmp3_eq (a b : ByteArray) : decide (cmp3 a b = 0) = decide (a = b) := by
 unfold cmp3
 cases h1 : sless a b with
 | true =>
  have : ¬ a = b := fun e => by subst e; rw [sless_irrefl] at h1; cases h1
  simp [this]
 | false =>
  cases h2 : sless b a with
  | true =>
   have : ¬ a = b := fun e => by subst e; rw [sless_irrefl] at h2; cases h2
   simp [this]
  | false => simp [sless_total h1 h2]
theorem Place.has {L : List Hd} {key : ByteArray} {m : Nat} (h : Place L key m) (hs : Sorted L) (hm : m < L.length) : hasK L key = decide (L[m].key = key) := by
 by_cases e : L[m].key = key
 ·rw [decide_eq_true e]
  exact List.any_eq_true.2 ⟨_, List.getElem_mem hm, by simp [e]⟩
 ·rw [decide_eq_false e]
  refine List.any_eq_false.2 fun x hx => ?_
  obtain ⟨k, hk, rfl⟩ := List.getElem_of_mem hx
  simp only [decide_eq_true_eq]
  intro e2
  rcases Nat.lt_trichotomy k m with hlt | heq | hgt
  ·have := h.lo k hk hlt
   rw [e2, sless_irrefl] at this
   cases this
  ·subst heq; exact e e2
  ·have h1 := hs.get hm hk hgt
   rw [e2] at h1
   rw [h.hi m hm (Nat.le_refl _)] at h1
   cases h1
theorem Place.none {L : List Hd} {key : ByteArray} {m : Nat} (h : Place L key m) (hm : m = L.length) : hasK L key = false := by
 refine List.any_eq_false.2 fun x hx => ?_
 obtain ⟨k, hk, rfl⟩ := List.getElem_of_mem hx
 simp only [decide_eq_true_eq]
 intro e2
 have := h.lo k hk (by omega)
 rw [e2, sless_irrefl] at this
 cases this
theorem wru {x : Int} (h1 : 0 ≤ x) (h2 : x ≤ 18446744073709551615) : IntKind.u64.wrap x = x := by
 unfold IntKind.wrap; simp [IntKind.signed, IntKind.bits]; omega
theorem half (n : Nat) : ((n : Int).fdiv (2 ^ (min (1 : Int).toNat IntKind.u64.bits))) = ((n / 2 : Nat) : Int) := by
 have : (2 : Int) ^ (min (1 : Int).toNat IntKind.u64.bits) = 2 := by decide
 rw [this]
 rw [Int.fdiv_eq_ediv_of_nonneg _ (by omega)]; omega

theorem bs_cl {S G : Nat → Prop} {H : Hp} {v : Value} {L : List Hd} (key : ByteArray) (hv : SlP S H 7 (ElHd G H) v L) (hs : Sorted L) : Cl Tryz.prog 104 [v, .string key, .func (.func 105) #[] #[]] H fun r H' => Ext H H' ∧ ∃ m : Nat, Place L key m ∧ r = .tuple #[.int .i64 m, .bool (hasK L key)] := by
 refine cl_of mixed c_slices_BinarySearchFunc_string (Nat.le_of_ble_eq_true rfl) ?_
 simp only [fwp, ir_slices_BinarySearchFunc_string, argF, Nat.reduceAdd]
 obtain ⟨a, c, rfl, hc, hl, hel⟩ := SlP.open hv
 clear hv
 refine w_reg fun K hK => ?_; simp (disch := omega) only [↓wD, wU, simprocAttr]; refine hK _ _ ?_; clear hK K
 refine w_reg fun K hK => ?_; simp (disch := omega) only [↓wD, wU, simprocAttr]; refine hK _ _ ?_; clear hK K
 refine w_reg fun K hK => ?_; simp (disch := omega) only [↓wD, wU, simprocAttr]; refine hK _ _ ?_; clear hK K
 refine w_seq ?_
 refine w_blk (w_loop (fun n f H' => Ext H H' ∧ f 0 = .slice a L.length c ∧ f 1 = .string key ∧ f 2 = .func (.func 105) #[] #[] ∧ f 8 = .int .i64 L.length ∧ ∃ (i j : Nat), f 9 = .int .i64 i ∧ f 10 = .int .i64 j ∧ i ≤ j ∧ j ≤ L.length ∧ (∀ k (hk : k < L.length), k < i → sless L[k].key key = true) ∧ (∀ k (hk : k < L.length), j ≤ k → sless L[k].key key = false) ∧ n = j - i) _ ⟨Ext.refl _, (by simp only [wL, Nat.reduceBEq]), (by simp only [wL, Nat.reduceBEq]), (by simp only [wL, Nat.reduceBEq]), (by simp only [wL, Nat.reduceBEq]), 0, L.length, rfl, (by simp only [wL, Nat.reduceBEq]), Nat.zero_le _, Nat.le_refl _, fun k hk h => by omega, fun k hk h => by omega, rfl⟩ ?_)
 rintro n f H' ⟨hE, f0, f1, f2, f8, i, j, f9, f10, hij, hj, hlo, hhi, rfl⟩
 refine w_seq (w_seq ?_)
 by_cases hlt : i < j
 ·refine w_reg fun K hK => ?_; simp (disch := omega) only [↓wD, wU, simprocAttr, f9, f10, hlt]; refine hK _ _ ?_; clear hK K
  refine wt ?_
  refine w_skip ?_
  (with_reducible repeat first | apply q_n | apply q_e | apply q_r | apply bq_n | apply bq_e | apply bq_r | apply bq_o rfl)
  refine w_blk ?_
  have hsh : binV .shr (.int .u64 ((i + j : Nat) : Int)) (.int .u64 1) = some (.int .u64 (((i + j) / 2 : Nat) : Int)) := by
   rw [b_shr (by omega), half]
  have hw1 : IntKind.u64.wrap ((i + j : Nat) : Int) = ((i + j : Nat) : Int) := wru (by omega) (by omega)
  refine w_reg fun K hK => ?_; simp (disch := omega) only [↓wD, wU, simprocAttr, f9, f10, hw1, hsh]; refine hK _ _ ?_; clear hK K
  obtain ⟨m, hm⟩ : ∃ m, m = (i + j) / 2 := ⟨_, rfl⟩
  rw [← hm]
  have hmL : m < L.length := by omega
  obtain ⟨b, o, rfl, hS, cs, hcs, he⟩ := hel m hmL
  have hcs' := rdn_ext hE hcs
  refine w_reg fun K hK => ?_
  simp (disch := omega) only [↓wD, wU, simprocAttr, f0, f1, f2, hmL, hcs']
  refine w_call (at1_cl key (he.ext hE)) ?_
  rintro _ H1 ⟨rfl, hE1⟩
  simp (disch := omega) only [↓wD, wU, simprocAttr, cmp3_lt]
  refine hK _ _ ?_
  clear hK K
  cases hc3 : sless L[m].key key with
  | true =>
   refine w_true (by simp only [wL, Nat.reduceBEq, Bool.not_true, Bool.not_false, hc3]) ?_
   refine w_reg1 fun K hK => ?_; simp (disch := omega) only [↓wD, wU, simprocAttr]; refine hK _ _ ?_; clear hK K
   (with_reducible repeat first | apply q_n | apply q_e | apply q_r | apply bq_n | apply bq_e | apply bq_r | apply bq_o rfl)
   exact ⟨j - (m + 1), by omega, hE.trans hE1, (by simp only [wL, Nat.reduceBEq, f0]), (by simp only [wL, Nat.reduceBEq, f1]), (by simp only [wL, Nat.reduceBEq, f2]), (by simp only [wL, Nat.reduceBEq, f8]), m + 1, j, (by simp only [wL, Nat.reduceBEq]), (by simp only [wL, Nat.reduceBEq, f10]), by omega, hj, fun k hk h => (by
    by_cases hkm : k = m
    ·subst hkm; exact hc3
    ·exact sless_trans (hs.get hk hmL (by omega)) hc3), hhi, rfl⟩
  | false =>
   refine w_false (by simp only [wL, Nat.reduceBEq, Bool.not_true, Bool.not_false, hc3]) ?_
   refine w_reg1 fun K hK => ?_; simp (disch := omega) only [↓wD, wU, simprocAttr]; refine hK _ _ ?_; clear hK K
   (with_reducible repeat first | apply q_n | apply q_e | apply q_r | apply bq_n | apply bq_e | apply bq_r | apply bq_o rfl)
   exact ⟨m - i, by omega, hE.trans hE1, (by simp only [wL, Nat.reduceBEq, f0]), (by simp only [wL, Nat.reduceBEq, f1]), (by simp only [wL, Nat.reduceBEq, f2]), (by simp only [wL, Nat.reduceBEq, f8]), i, m, (by simp only [wL, Nat.reduceBEq, f9]), (by simp only [wL, Nat.reduceBEq]), by omega, by omega, hlo, fun k hk h => (by
    by_cases hkm : k = m
    ·subst hkm; exact hc3
    ·cases h2 : sless L[k].key key with
     | false => rfl
     | true =>
      have := sless_trans (hs.get hmL hk (by omega)) h2
      rw [hc3] at this; cases this), rfl⟩
 ·have hije : i = j := by omega
  subst hije
  have hP : Place L key i := ⟨hj, hlo, hhi⟩
  refine w_reg fun K hK => ?_; simp (disch := omega) only [↓wD, wU, simprocAttr, f9, f10, hlt]; refine hK _ _ ?_; clear hK K
  refine wf ?_
  refine w_exit ?_
  (with_reducible repeat first | apply q_n | apply q_e | apply q_r | apply bq_n | apply bq_e | apply bq_r | apply bq_o rfl)
  refine w_reg fun K hK => ?_
  by_cases hiL : i < L.length
  ·obtain ⟨b, o, rfl, hS, cs, hcs, he⟩ := hel i hiL
   have hcs' := rdn_ext hE hcs
   simp (disch := omega) only [↓wD, wU, simprocAttr, f0, f1, f2, f8, f9, hiL, hcs']
   refine w_call (at1_cl key (he.ext hE)) ?_
   rintro _ H1 ⟨rfl, hE1⟩
   simp (disch := omega) only [↓wD, wU, simprocAttr, cmp3_eq]
   refine hK _ _ ?_
   clear hK K
   refine w_ret ?_; (with_reducible repeat first | apply q_n | apply q_e | apply q_r | apply bq_n | apply bq_e | apply bq_r | apply bq_o rfl); refine ret2 (by (try simp only [wL, Nat.reduceBEq, f9]); rfl) (by (try simp only [wL, Nat.reduceBEq, f9]); rfl) ?_
   exact ⟨hE.trans hE1, i, hP, by rw [hP.has hs hiL]⟩
  ·simp (disch := omega) only [↓wD, wU, simprocAttr, f0, f1, f2, f8, f9, hiL]
   refine hK _ _ ?_
   clear hK K
   refine w_ret ?_; (with_reducible repeat first | apply q_n | apply q_e | apply q_r | apply bq_n | apply bq_e | apply bq_r | apply bq_o rfl); refine ret2 (by (try simp only [wL, Nat.reduceBEq, f9]); rfl) (by (try simp only [wL, Nat.reduceBEq, f9]); rfl) ?_
   exact ⟨hE, i, hP, by rw [hP.none (by omega)]⟩

theorem at_cl {M G : Nat → Prop} {H : Hp} {p : Nat} {L : List Hd} {v : Value} (key : ByteArray) (hT : Tab M G H p L v) (hs : Sorted L) (hb : L.length ≤ big) : Cl Tryz.prog 51 [.pointer (some ⟨p, 0, none⟩), .string key] H fun r H' => Ext H H' ∧ ∃ m : Nat, Place L key m ∧ r = .tuple #[.int .i64 m, .bool (hasK L key)] := by
 refine cl_of mixed c_holds_row_at (Nat.le_of_ble_eq_true rfl) ?_
 simp only [fwp, ir_holds_row_at, argF, Nat.reduceAdd]
 have hc0 := hT.c0
 have hslp : SlP (fun x => M x ∨ G x) H 7 (ElHd G H) v L := by
  obtain ⟨css, h1, h2, h3⟩ := hT.row
  exact SlP.mono (H' := H) (h1.slp h2 hb h3) (fun _ h => .inl h) (fun _ _ _ => rfl) fun _ _ _ h => h
 refine w_reg fun K hK => ?_; simp (disch := omega) only [↓wD, wU, simprocAttr]; refine hK _ _ ?_; clear hK K
 refine w_reg fun K hK => ?_
 simp (disch := omega) only [↓wD, wU, simprocAttr, hc0]
 refine w_call (bs_cl key hslp hs) ?_
 rintro _ H1 ⟨hE, m, hP, rfl⟩
 simp (disch := omega) only [↓wD, wU, simprocAttr]
 refine hK _ _ ?_
 clear hK K
 refine w_ret ?_; (with_reducible repeat first | apply q_n | apply q_e | apply q_r | apply bq_n | apply bq_e | apply bq_r | apply bq_o rfl); refine ret2 (by (try simp only [wL, Nat.reduceBEq]); rfl) (by (try simp only [wL, Nat.reduceBEq]); rfl) ?_
 exact ⟨hE, m, hP, rfl⟩
end Go.WK
