/-
  HoldsBytes: for every list of holds and every bytes in memory the function returns true, does not panic and leaves what was there; its condition is the one of its row. Part 3 of 14.
-/
import Derived.Test.YtcafflmhjgnehaaGreatDoorHoldsBytesQ1
import Derived.Laws.StructEq
set_option linter.unusedSimpArgs false
set_option linter.unusedVariables false
set_option linter.defProp false
set_option maxRecDepth 100000
/-
 Each operation of the small language does what the loaded operation does (2): arithmetic, comparisons, places.
-/
namespace Go.WK
open Go

theorem toList_inj {a b : ByteArray} (h : a.toList = b.toList) : a = b := by
 rw [ByteArray.toList_eq, ByteArray.toList_eq] at h
 cases a; cases b
 simp only [ByteArray.mk.injEq]
 exact Array.ext' h
theorem bytes_beq (a b : ByteArray) : (a.toList == b.toList) = decide (a = b) := by
 by_cases h : a = b
 ·subst h; simp
 ·rw [decide_eq_false h, beq_eq_false_iff_ne]
  exact fun e => h (toList_inj e)
theorem beq_dec {α : Type} [DecidableEq α] (a b : α) : (a == b) = decide (a = b) := by
 by_cases h : a = b <;> simp [h]
theorem bytesLess_asymm : ∀ (a b : List UInt8), Op.bytesLess a b = true → Op.bytesLess b a = false
 | _, [], h => by simp [Op.bytesLess] at h
 | [], _ :: _, _ => by simp [Op.bytesLess]
 | a :: x, b :: y, h => by
  simp only [Op.bytesLess, Bool.or_eq_true, decide_eq_true_eq, Bool.and_eq_true, beq_iff_eq] at h
  simp only [Op.bytesLess, Bool.or_eq_false_iff, decide_eq_false_iff_not, Bool.and_eq_false_imp, beq_iff_eq]
  rcases h with h | ⟨rfl, h⟩
  ·refine ⟨fun k => ?_, fun k => ?_⟩
   ·exact absurd (UInt8.lt_trans h k) (UInt8.lt_irrefl a)
   ·subst k; exact absurd h (UInt8.lt_irrefl _)
  ·exact ⟨UInt8.lt_irrefl _, fun _ => bytesLess_asymm x y h⟩
theorem bytesLess_total : ∀ (a b : List UInt8), Op.bytesLess a b = false → Op.bytesLess b a = false → a = b
 | [], [], _, _ => rfl
 | [], _ :: _, h, _ => by simp [Op.bytesLess] at h
 | _ :: _, [], _, h => by simp [Op.bytesLess] at h
 | a :: x, b :: y, h, k => by
  simp only [Op.bytesLess, Bool.or_eq_false_iff, decide_eq_false_iff_not, Bool.and_eq_false_imp, beq_iff_eq] at h k
  have e : a = b := by
   have h1 := UInt8.not_lt.1 h.1
   have h2 := UInt8.not_lt.1 k.1
   exact UInt8.le_antisymm h2 h1
  subst e
  rw [bytesLess_total x y (h.2 rfl) (k.2 rfl)]
theorem bytesLess_irrefl (a : List UInt8) : Op.bytesLess a a = false := by
 cases h : Op.bytesLess a a with
 | false => rfl
 | true => have := bytesLess_asymm a a h; rw [h] at this; exact this
theorem bytesLess_trans : ∀ (a b c : List UInt8), Op.bytesLess a b = true → Op.bytesLess b c = true → Op.bytesLess a c = true
 | _, [], _, h, _ => by simp [Op.bytesLess] at h
 | _, _ :: _, [], _, h => by simp [Op.bytesLess] at h
 | [], _ :: _, _ :: _, _, _ => by simp [Op.bytesLess]
 | a :: x, b :: y, c :: z, h, k => by
  simp only [Op.bytesLess, Bool.or_eq_true, decide_eq_true_eq, Bool.and_eq_true, beq_iff_eq] at h k ⊢
  rcases h with h | ⟨rfl, h⟩
  ·rcases k with k | ⟨rfl, k⟩
   ·exact .inl (UInt8.lt_trans h k)
   ·exact .inl h
  ·rcases k with k | ⟨rfl, k⟩
   ·exact .inl k
   ·exact .inr ⟨rfl, bytesLess_trans x y z h k⟩
theorem sless_asymm {a b : ByteArray} (h : sless a b = true) : sless b a = false := bytesLess_asymm _ _ h
theorem sless_irrefl (a : ByteArray) : sless a a = false := bytesLess_irrefl _
theorem sless_total {a b : ByteArray} (h : sless a b = false) (k : sless b a = false) : a = b := toList_inj (bytesLess_total _ _ h k)
theorem sless_trans {a b c : ByteArray} (h : sless a b = true) (k : sless b c = true) : sless a c = true := bytesLess_trans _ _ _ h k
theorem lt_or_eq (a b : ByteArray) : (Op.bytesLess a.toList b.toList || a.toList == b.toList) = !sless b a := by
 rw [bytes_beq]
 cases h : sless b a with
 | true =>
  have h1 := sless_asymm h
  have h2 : a ≠ b := fun e => by subst e; rw [h] at h1; cases h1
  have h1' : Op.bytesLess a.toList b.toList = false := h1
  simp [h1', h2]
 | false =>
  cases h1 : Op.bytesLess a.toList b.toList with
  | true => simp
  | false => simp [sless_total h1 h]

section
variable {P : Program} {ρ : Operand → Value} {w : World} {κ : Value → Hp → Prop}

theorem run_strV {op : BinOp} {a b : ByteArray} {v : Value} (h : strV op a b = some v) : (Op.stringOp op a b).run P w = .ok v w := by
 cases op
 case add =>
  simp only [strV] at h
  split at h
  ·simp at h
  ·rename_i hn; simp at h; subst h; simp only [Op.stringOp]; rw [if_neg hn]; rfl
 case eql => simp [strV] at h; subst h; simp [Op.stringOp, bytes_beq]
 case neq => simp [strV] at h; subst h; simp [Op.stringOp, bytes_beq]
 case lss => simp [strV] at h; subst h; rfl
 case leq => simp [strV] at h; subst h; simp only [Op.stringOp, lt_or_eq]; rfl
 case gtr => simp [strV] at h; subst h; simp only [Op.stringOp, lt_or_eq, Bool.not_not]; rfl
 case geq => simp [strV] at h; subst h; rfl
 all_goals simp [strV] at h
theorem run_intV {op : BinOp} {k : IntKind} {a b : Int} {v : Value} (t : Nat) (h : intV op k a b = some v) : (binOp op t (.int k a) (.int k b)).run P w = .ok v w := by
 cases op
 case quo =>
  simp only [intV] at h
  split at h
  ·simp at h
  ·rename_i hn; simp at h; subst h; simp [binOp, Op.intDiv, hn]
 case rem =>
  simp only [intV] at h
  split at h
  ·simp at h
  ·rename_i hn; simp at h; subst h; simp [binOp, Op.intDiv, hn]
 case shl => simp [intV] at h
 case shr => simp [intV] at h
 all_goals
  simp only [intV, Option.some.injEq] at h
  subst h
  simp [binOp, Op.intArith, Op.intCmp, Op.intBits, bne, beq_dec]
theorem run_binV {op : BinOp} {a b v : Value} (t : Nat) (h : binV op a b = some v) : (binOp op t a b).run P w = .ok v w := by
 unfold binV at h
 split at h
 ·simp only [shV] at h
  split at h
  ·simp at h
  ·rename_i hn; simp at h; subst h; simp [binOp, Op.shift, hn]
 ·simp only [shV] at h
  split at h
  ·simp at h
  ·rename_i hn; simp at h; subst h; simp [binOp, Op.shift, hn]
 ·split at h
  ·rename_i e; subst e
   exact run_intV t h
  ·simp at h
 ·rename_i a' b' _ _ _
  have := run_strV (P := P) (w := w) h
  cases op <;> simp [binOp, this]
 ·simp at h
theorem run_eqGuard_plain {op : BinOp} {t : Nat} {x y : Operand} {a b : Value} (h1 : a = .nilIface → b = .nilIface → False) (h2 : ∀ xs ys, a = .agg xs → b = .agg ys → False) : (eqGuard op t x y a b).run P w = .ok () w := by
 unfold eqGuard
 cases op <;> (try rfl)
 all_goals
  simp only [Bool.not_true, Bool.false_eq_true, if_false]
  first
   | rfl
   | (split; exact (h1 rfl rfl).elim; exact (h2 _ _ rfl rfl).elim; rfl)

theorem s_bin {op : BinOp} {t : Nat} {x y : Operand} (h : isem P (.bin op x y) ρ w.heap κ) :
  vpost w κ ((do eqGuard op t x y (ρ x) (ρ y); binOp op t (ρ x) (ρ y) : Sem Value).run P w) := by
 obtain ⟨v, hv, h⟩ := onSome_iff h
 have e1 : (eqGuard op t x y (ρ x) (ρ y)).run P w = .ok () w := by
  apply run_eqGuard_plain
  ·intro ha hb; rw [ha, hb] at hv; cases op <;> simp [binV] at hv
  ·intro xs ys ha hb; rw [ha, hb] at hv; cases op <;> simp [binV] at hv
 simp [e1, run_binV t hv, vpost, h, Same.refl]

theorem s_eqb {op : BinOp} {neg : Bool} {t : Nat} {x y : Operand} (ht : P.underlying t = some .bool) (ho : op = if neg then .neq else .eql) (h : isem P (.eqb neg x y) ρ w.heap κ) :
  vpost w κ ((do eqGuard op t x y (ρ x) (ρ y); binOp op t (ρ x) (ρ y) : Sem Value).run P w) := by
 obtain ⟨a, ha, h⟩ := onBool_iff h
 obtain ⟨b, hb, h⟩ := onBool_iff h
 have e1 : (eqGuard op t x y (ρ x) (ρ y)).run P w = .ok () w := by
  apply run_eqGuard_plain
  ·intro h1 h2; rw [ha] at h1; cases h1
  ·intro xs ys h1 h2; rw [ha] at h1; cases h1
 have e2 : (Op.equal t (.bool a) (.bool b)).run P w = .ok (decide (a = b)) w := by
  simp [Op.equal, Op.maxDepth, run_equalIn_bool' w 9999 t a b ht, beq_dec]
 rw [ha, hb] at e1 ⊢
 cases neg <;> simp at ho <;> subst ho <;> simp [e1, binOp, e2, vpost, Same.refl] <;> simpa using h

def NK.fits : NK → TypeDesc → Prop
 | .ptr, .pointer _ => True
 | .sli, .slice _ => True
 | .map, .map _ _ => True
 | .fn, .func _ _ _ => True
 | _, _ => False
theorem run_nilV {t d : Nat} {a b : Value} {r : Bool} {u : TypeDesc} {nk : NK} (hu : P.underlying t = some u) (ht : nk.fits u) (h : nilV nk a b = some r) :
  (Op.equalIn (d + 1) t a b).run P w = .ok r w := by
 have hr := run_und hu w
 unfold nilV at h
 split at h <;> simp only [Option.some.injEq, reduceCtorEq] at h <;> subst h <;> cases u <;> simp only [NK.fits] at ht <;> simp [Op.equalIn, hr]
theorem nilV_plain {nk : NK} {a b : Value} {r : Bool} (h : nilV nk a b = some r) : (a = .nilIface → b = .nilIface → False) ∧ (∀ xs ys, a = .agg xs → b = .agg ys → False) ∧
  (∀ t, binOp .eql t a b = (do pure (.bool (← Op.equal t a b)))) ∧ (∀ t, binOp .neq t a b = (do pure (.bool (!(← Op.equal t a b))))) := by
 unfold nilV at h
 split at h <;> simp_all [binOp]

theorem s_eqz {op : BinOp} {nk : NK} {neg : Bool} {t : Nat} {x y : Operand} {u : TypeDesc} (hu : P.underlying t = some u) (ht : nk.fits u) (ho : op = if neg then .neq else .eql) (h : isem P (.eqz nk neg x y) ρ w.heap κ) :
  vpost w κ ((do eqGuard op t x y (ρ x) (ρ y); binOp op t (ρ x) (ρ y) : Sem Value).run P w) := by
 obtain ⟨r, hr, h⟩ := onSome_iff h
 obtain ⟨g1, g2, g3, g4⟩ := nilV_plain hr
 have e1 : (eqGuard op t x y (ρ x) (ρ y)).run P w = .ok () w := run_eqGuard_plain g1 g2
 have e2 : (Op.equal t (ρ x) (ρ y)).run P w = .ok r w := run_nilV (d := 9999) hu ht hr
 cases neg <;> simp at ho <;> subst ho <;> simp [e1, g3, g4, e2, vpost, Same.refl] <;> simpa using h

/-- The leaves of a struct type: '==' goes through them one by one. -/
def mkV (agg : Bool) (xs : List Value) : Value := if agg then .agg xs.toArray else xs.headD undef
theorem leavesEq_app : ∀ {K L : List LK} {a b : List Value} {r : Bool}, leavesEq (K ++ L) a b = some r →
  ∃ p q, leavesEq K (a.take K.length) (b.take K.length) = some p ∧ leavesEq L (a.drop K.length) (b.drop K.length) = some q ∧ r = (p && q)
 | [], L, a, b, r, h => ⟨true, r, by simp [leavesEq], by simpa using h, by simp⟩
 | k :: K, L, [], [], r, h => by simp [leavesEq] at h
 | k :: K, L, [], _ :: _, _, h => by simp [leavesEq] at h
 | k :: K, L, _ :: _, [], _, h => by simp [leavesEq] at h
 | k :: K, L, x :: a, y :: b, r, h => by
  simp only [List.cons_append, leavesEq] at h
  cases h1 : leafEq k x y with
  | none => simp [h1] at h
  | some p =>
   cases h2 : leavesEq (K ++ L) a b with
   | none => simp [h1, h2] at h
   | some q =>
    simp [h1, h2] at h
    subst h
    obtain ⟨p', q', e1, e2, e3⟩ := leavesEq_app h2
    exact ⟨p && p', q', by simp [leavesEq, h1, e1], by simpa using e2, by rw [e3]; simp [Bool.and_assoc]⟩
theorem leavesEq_len : ∀ {K : List LK} {a b : List Value} {r : Bool}, leavesEq K a b = some r → a.length = K.length ∧ b.length = K.length
 | [], [], [], _, _ => ⟨rfl, rfl⟩
 | [], [], _ :: _, _, h => by simp [leavesEq] at h
 | [], _ :: _, _, _, h => by simp [leavesEq] at h
 | _ :: _, [], _, _, h => by simp [leavesEq] at h
 | _ :: _, _ :: _, [], _, h => by simp [leavesEq] at h
 | k :: K, x :: a, y :: b, r, h => by
  simp only [leavesEq] at h
  cases h1 : leafEq k x y with
  | none => simp [h1] at h
  | some p =>
   cases h2 : leavesEq K a b with
   | none => simp [h1, h2] at h
   | some q => simp [leavesEq_len h2]
end
end Go.WK
/-
 Each operation of the small language does what the loaded operation does (3): '==' of structs.
-/
namespace Go.WK
open Go

section
variable {P : Program} {ρ : Operand → Value} {w : World} {κ : Value → Hp → Prop}

theorem run_part {t off n : Nat} {b : Bool} {cs : List Value} (hb : aggT P t = some b) (hn : szOf P t = some n) (hl : b = false → n = 1) (h : off + n ≤ cs.length) :
  (part t cs.toArray off).run P w = .ok (mkV b ((cs.drop off).take n)) w := by
 cases b
 ·have := hl rfl
  subst this
  have hx : cs[off]? = some (cs[off]'(by omega)) := List.getElem?_eq_getElem _
  simp only [part, Sem.run_bind, run_aggT hb, Result.andThen_ok, Bool.false_eq_true, if_false, List.getElem?_toArray, hx, Sem.run_pure, mkV]
  rw [List.drop_eq_getElem_cons (by omega)]
  rfl
 ·simp only [part, Sem.run_bind, run_aggT hb, Result.andThen_ok, if_true, run_szOf hn, Sem.run_pure, mkV]
  congr 2
  apply Array.ext'
  simp [Array.toList_extract, List.extract_eq_take_drop]

def leafT : LK → TypeDesc → Prop
 | .i, .int _ => True
 | .s, .string => True
 | .b, .bool => True
 | _, _ => False

theorem run_leaf {t D : Nat} {k : LK} {u : TypeDesc} {x y : Value} {r : Bool} (hu : P.underlying t = some u) (hk : leafT k u) (h : leafEq k x y = some r) :
  (Op.equalIn (D + 1) t x y).run P w = .ok r w := by
 unfold leafEq at h
 split at h
 ·split at h
  ·rename_i ek; subst ek; simp at h; subst h
   cases u <;> simp only [leafT] at hk
   rw [run_equalIn_int w D t _ _ _ _ hu, beq_dec]
  ·simp at h
 ·simp at h; subst h
  cases u <;> simp only [leafT] at hk
  rw [run_equalIn_string w D t _ _ hu, bytes_beq]
 ·simp at h; subst h
  cases u <;> simp only [leafT] at hk
  rw [run_equalIn_bool' w D t _ _ hu, beq_dec]
 ·simp at h

theorem run_leaf1 {t D : Nat} {k : LK} {u : TypeDesc} {xs ys : List Value} {r b : Bool} (hu : P.underlying t = some u) (hk : leafT k u) (hb : aggT P t = some b) (h : leavesEq [k] xs ys = some r) :
  (Op.equalIn (D + 1) t (mkV b xs) (mkV b ys)).run P w = .ok r w := by
 obtain ⟨h1, h2⟩ := leavesEq_len h
 match xs, ys, h1, h2 with
 | [x], [y], _, _ =>
  have hb' : b = false := by
   unfold aggT at hb
   rw [hu] at hb
   cases k <;> cases u <;> simp only [leafT] at hk <;> simpa using hb.symm
  subst hb'
  simp only [leavesEq] at h
  cases h3 : leafEq k x y with
  | none => simp [h3] at h
  | some p => simp [h3] at h; subst h; exact run_leaf hu hk h3

theorem leavesK_size {d t : Nat} {L : List LK} (h : leavesK P d t = some L) : szOf P t = some L.length ∧ ∃ b, aggT P t = some b ∧ (b = false → L.length = 1) := by
 cases d with
 | zero => simp [leavesK] at h
 | succ d =>
  unfold leavesK at h
  split at h
  ·rename_i k hu
   split at h
   ·rename_i hs; simp at h; subst h; exact ⟨hs, false, by simp [aggT, hu], fun _ => rfl⟩
   ·simp at h
  ·rename_i hu
   split at h
   ·rename_i hs; simp at h; subst h; exact ⟨hs, false, by simp [aggT, hu], fun _ => rfl⟩
   ·simp at h
  ·rename_i hu
   split at h
   ·rename_i hs; simp at h; subst h; exact ⟨hs, false, by simp [aggT, hu], fun _ => rfl⟩
   ·simp at h
  ·rename_i fs hu
   split at h
   ·simp at h
   ·cases hg : leavesGo (leavesK P d) fs.toList [] with
    | none => simp [hg] at h
    | some x =>
     simp only [hg, Option.bind_some] at h
     split at h
     ·rename_i hs; simp at h; subst h; exact ⟨hs, true, by simp [aggT, hu], by simp⟩
     ·simp at h
  ·simp at h

theorem leavesGo_app {k : Nat → Option (List LK)} : ∀ {fs : List Field} {acc L : List LK}, leavesGo k fs acc = some L → ∃ M, L = acc ++ M
 | [], acc, L, h => by simp [leavesGo] at h; subst h; exact ⟨[], by simp⟩
 | f :: fs, acc, L, h => by
  unfold leavesGo at h
  split at h
  ·cases hk : k f.type with
   | none => simp [hk] at h
   | some l =>
    simp only [hk, Option.bind_some] at h
    obtain ⟨M, rfl⟩ := leavesGo_app h
    exact ⟨l ++ M, by simp⟩
  ·simp at h

theorem run_eqFields {d D : Nat} (ih : ∀ (t : Nat) (L : List LK), leavesK P d t = some L → ∀ (b : Bool) (xs ys : List Value) (r : Bool), aggT P t = some b → leavesEq L xs ys = some r → (Op.equalIn D t (mkV b xs) (mkV b ys)).run P w = .ok r w) :
  ∀ (fs : List Field) (acc M : List LK), leavesGo (leavesK P d) fs acc = some (acc ++ M) → ∀ (xs ys : List Value) (r : Bool), xs.length = (acc ++ M).length → ys.length = (acc ++ M).length →
   leavesEq M (xs.drop acc.length) (ys.drop acc.length) = some r → (Op.eqFields D xs.toArray ys.toArray fs).run P w = .ok r w := by
 intro fs
 induction fs with
 | nil =>
  intro acc M h xs ys r hx hy hr
  simp [leavesGo] at h
  subst h
  simp at hx hy
  rw [List.drop_of_length_le (by omega), List.drop_of_length_le (by omega)] at hr
  simp [leavesEq] at hr
  subst hr
  simp [Op.eqFields]
 | cons f fs ihf =>
  intro acc M h xs ys r hx hy hr
  unfold leavesGo at h
  split at h
  ·rename_i hc
   obtain ⟨hn, ho⟩ := hc
   cases hk : leavesK P d f.type with
   | none => simp [hk] at h
   | some l =>
    simp only [hk, Option.bind_some] at h
    obtain ⟨M', hM⟩ := leavesGo_app h
    have hM' : M = l ++ M' := by simpa using hM
    subst hM'
    obtain ⟨z1, b, z2, z3⟩ := leavesK_size hk
    obtain ⟨p, q, e1, e2, e3⟩ := leavesEq_app hr
    simp only [List.length_append] at hx hy
    have p1 := run_part (P := P) (w := w) (cs := xs) (off := f.offset) z2 z1 z3 (by omega)
    have p2 := run_part (P := P) (w := w) (cs := ys) (off := f.offset) z2 z1 z3 (by omega)
    rw [ho] at p1 p2
    have q1 := ih f.type l hk b _ _ p z2 e1
    have q2 := ihf (acc ++ l) M' (by simpa using h) xs ys q (by simp; omega) (by simp; omega) (by simpa [List.drop_drop, Nat.add_comm] using e2)
    simp only [Op.eqFields, hn, ne_eq, not_false_eq_true, if_true, Sem.run_bind, ho, p1, p2, Result.andThen_ok, q1]
    subst e3
    cases p
    ·simp
    ·simp [q2]
  ·simp at h

theorem run_equalIn_leaves : ∀ (d t : Nat) (L : List LK), leavesK P d t = some L → ∀ (D : Nat), d ≤ D → ∀ (b : Bool) (xs ys : List Value) (r : Bool), aggT P t = some b → leavesEq L xs ys = some r →
  (Op.equalIn D t (mkV b xs) (mkV b ys)).run P w = .ok r w := by
 intro d
 induction d with
 | zero => intro t L h; simp [leavesK] at h
 | succ d ih =>
  intro t L h D hD b xs ys r hb hr
  obtain ⟨D, rfl⟩ : ∃ D', D = D' + 1 := ⟨D - 1, by omega⟩
  have h0 := h
  unfold leavesK at h
  split at h
  ·rename_i k hu
   split at h
   ·simp at h; subst h; exact run_leaf1 (k := .i) hu (by trivial) hb hr
   ·simp at h
  ·rename_i hu
   split at h
   ·simp at h; subst h; exact run_leaf1 (k := .s) hu (by trivial) hb hr
   ·simp at h
  ·rename_i hu
   split at h
   ·simp at h; subst h; exact run_leaf1 (k := .b) hu (by trivial) hb hr
   ·simp at h
  ·rename_i fs hu
   split at h
   ·simp at h
   ·rename_i hst
    cases hg : leavesGo (leavesK P d) fs.toList [] with
    | none => simp [hg] at h
    | some x =>
     simp only [hg, Option.bind_some] at h
     split at h
     ·simp at h; subst h
      have hb' : b = true := by simp [aggT, hu] at hb; exact hb
      subst hb'
      have hf : P.fieldsOf t = fs := by simp [Program.fieldsOf, hu]
      have hu' : P.underlying t = some (.struct (P.fieldsOf t)) := by rw [hf]; exact hu
      simp only [mkV, if_true]
      rw [run_equalIn_struct w D t _ _ hu' (by simpa using hst), hf]
      obtain ⟨l1, l2⟩ := leavesEq_len hr
      exact run_eqFields (fun t L h b xs ys r hb hr => ih t L h D (by omega) b xs ys r hb hr) fs.toList [] x (by simpa using hg) xs ys r (by simpa using l1) (by simpa using l2) (by simpa using hr)
     ·simp at h
  ·simp at h

theorem s_eqs {op : BinOp} {neg : Bool} {t : Nat} {x y : Operand} {L : List LK} {fs : Array Field} (hu : P.underlying t = some (.struct fs)) (hl : leavesK P 100 t = some L) (hg : P.eqGuardType P.depth t = false)
  (ho : op = if neg then .neq else .eql) (h : isem P (.eqs L neg x y) ρ w.heap κ) :
  vpost w κ ((do eqGuard op t x y (ρ x) (ρ y); binOp op t (ρ x) (ρ y) : Sem Value).run P w) := by
 obtain ⟨r, hr, h⟩ := onSome_iff h
 split at hr
 ·rename_i a b ha hb
  rw [ha, hb]
  have e1 := run_eqGuard_agg (P := P) w op t x y a b hg
  have e2 := run_equalIn_leaves (P := P) (w := w) 100 t L hl 10000 (by omega) true a.toList b.toList r (by simp [aggT, hu]) hr
  simp only [mkV, if_true, Array.toArray_toList] at e2
  cases neg <;> simp at ho <;> subst ho
  ·simp only [Sem.run_bind, e1, Result.andThen_ok, run_eql_struct, e2]
   exact ⟨Same.refl _, by simpa using h⟩
  ·simp only [Sem.run_bind, e1, Result.andThen_ok, run_neq_struct, e2]
   exact ⟨Same.refl _, by simpa using h⟩
 ·simp at hr
end
end Go.WK
/-
 Each operation of the small language does what the loaded operation does (4).
-/
namespace Go.WK
open Go

section
variable {P : Program} {ρ : Operand → Value} {w : World} {κ : Value → Hp → Prop}

theorem Same.heap (w : World) (H : Hp) : Same w { w with heap := H } := ⟨rfl, rfl, rfl⟩
theorem Same.draw (w : World) (n : Nat) : Same w { w with drawn := n } := ⟨rfl, rfl, rfl⟩

theorem s_bsl {t len : Nat} {ps : Array (Nat × Operand)} {i : I} (hc : compBuildSlice P t len ps = some i) (h : isem P i ρ w.heap κ) :
  vpost w κ ((Instr.buildSlice t len (ps.map fun (i, x) => (i, ρ x))).run P w) := by
 unfold compBuildSlice at hc
 split at hc
 ·rename_i elem hu
  split at hc
  ·rename_i s z hs hz
   split at hc
   ·rename_i hb
    obtain rfl := Option.some.inj hc
    obtain ⟨l, hl, h⟩ := onSome_iff h
    obtain ⟨v, hv, e⟩ := run_zeroL hz w
    have hcells : v.cells = z.toArray := by rw [← e]
    have hf := fill_fillL (fun i => some (i * s, s)) ρ ps.toList (ps.toList.map fun p => (p.1 * s, s, p.2)) ((List.range (len * s)).map fun i => z.getD (i % z.length) default) (by simp [Function.comp_def]) (by simp [Function.comp_def])
    rw [hl] at hf
    simp only [Instr.buildSlice, Sem.run_bind, run_und hu, Result.andThen_ok, run_szOf hs]
    rw [if_neg (by omega)]
    have hz' : (Array.range (len * s)).map (fun x => v.cells[x % v.cells.size]!) = ((List.range (len * s)).map fun i => z.getD (i % z.length) default).toArray := by
     apply Array.ext'
     rw [hcells]
     simp only [Array.toList_map, Array.toList_range, List.size_toArray]
     apply List.map_congr_left
     intro i _
     simp [getElem!_def, List.getD]
     cases z[i % z.length]? <;> rfl
    have hx : (List.map (fun x : Nat × Operand => (x.1, ρ x.2)) ps.toList) = ps.toList.map fun p => (p.1, ρ p.2) := rfl
    have fin : ∀ zz : Array Value, (Array.range (len * s)).map (fun x => zz[x % zz.size]!) = ((List.range (len * s)).map fun i => z.getD (i % z.length) default).toArray →
      vpost w κ (Sem.run P (do
       let some cells := Instr.fill (fun i => some (i * s, s)) ((Array.range (len * s)).map (zz[· % zz.size]!)) (ps.map fun (i, x) => (i, ρ x)).toList | stuck "buildSlice: a part of the wrong size"
       pure (.slice (some (← newRow elem cells)) len len)) w) := by
     intro zz hzz
     simp only [hzz, Array.toList_map, hx, hf, Option.map_some]
     simp only [newRow, Sem.run_bind, run_newObj, Result.andThen_ok, Sem.run_pure]
     exact ⟨⟨rfl, rfl, rfl⟩, h⟩
    by_cases h0 : len * s = 0
    ·rw [if_pos h0]
     simp only [Sem.run_bind, Sem.run_pure, Result.andThen_ok]
     exact fin #[] (by rw [h0]; simp)
    ·rw [if_neg h0]
     simp only [Sem.run_bind, hv, Result.andThen_ok, Sem.run_pure]
     exact fin _ hz'
   ·simp at hc
  ·simp at hc
 ·simp at hc

theorem s_un {op : UnOp} {x : Operand} (h : isem P (.un op x) ρ w.heap κ) : vpost w κ ((Op.unary op (ρ x)).run P w) := by
 obtain ⟨v, hv, h⟩ := onSome_iff h
 unfold unV at hv
 split at hv
 ·rename_i hx; simp at hv; subst hv; rw [hx]; simp [Op.unary, Op.intArith]; exact ⟨Same.refl _, by simpa using h⟩
 ·rename_i hx; simp at hv; subst hv; rw [hx]; simp [Op.unary, Op.intBits]; exact ⟨Same.refl _, by simpa using h⟩
 ·rename_i hx; simp at hv; subst hv; rw [hx]; simp [Op.unary]; exact ⟨Same.refl _, by simpa using h⟩
 ·simp at hv

theorem run_bytesOf {g : Value → ByteArray → Sem (ForInStep ByteArray)} (hg : ∀ n r, g (.int .u8 n) r = pure (ForInStep.yield (r.push (UInt8.ofNat n.toNat)))) : ∀ {l : List Value} {bs : List UInt8} (s : ByteArray), bytesOfCells l = some bs →
  (forIn l s g).run P w = .ok ⟨s.data ++ bs.toArray⟩ w
 | [], bs, s, h => by simp [bytesOfCells] at h; subst h; simp
 | v :: l, bs, s, h => by
  unfold bytesOfCells at h
  split at h
  ·simp at *
  ·rename_i n l' heq
   simp at heq
   obtain ⟨rfl, rfl⟩ := heq
   cases hb : bytesOfCells l with
   | none => simp [hb] at h
   | some r =>
    simp [hb] at h
    subst h
    have := run_bytesOf hg (s.push (UInt8.ofNat n.toNat)) hb
    simp only [List.forIn_cons, Sem.run_bind, hg, Sem.run_pure, Result.andThen_ok, this]
    congr 2
    simp [ByteArray.push]
  ·simp at h
theorem modify_push (H : Hp) (o : Obj) (f : Obj → Obj) : (H.push o).modify H.size f = H.push (f o) := by
 apply Array.ext_getElem?
 intro i
 simp only [Array.getElem?_modify, Array.getElem?_push]
 by_cases h : i = H.size
 ·subst h; simp
 ·rw [if_neg (fun e => h e.symm), if_neg h, if_neg h]

theorem s_conv {src dst : Nat} {x : Operand} {i : I} (hc : compConv P src dst x = some i) (h : isem P i ρ w.heap κ) : vpost w κ ((convert src dst (ρ x)).run P w) := by
 unfold compConv at hc
 split at hc
 ·rename_i hs hd
  simp at hc; subst hc
  obtain ⟨i, n, hx, h⟩ := onInt_iff h
  rw [hx]
  simp [convert, run_und hs, run_und hd, Conv.intToInt, vpost, Same.refl, h]
 ·rename_i hs hd
  simp at hc; subst hc
  obtain ⟨s, hx, h⟩ := onStr_iff h
  rw [hx]
  simp [convert, run_und hs, run_und hd, vpost, Same.refl, h]
 ·rename_i e hs hd
  split at hc
  ·rename_i he
   simp at hc; subst hc
   obtain ⟨a, n, c, hx, h⟩ := onSlice_iff h
   rw [hx]
   simp only [convert, Sem.run_bind, run_und hs, run_und hd, Result.andThen_ok, run_und he, Conv.bytesToString]
   cases a with
   | none => simp [vpost, Same.refl]; exact h
   | some a =>
    obtain ⟨ha, h1⟩ := h
    obtain ⟨l, hl, h2⟩ := onSome_iff h1
    obtain ⟨bs, hb, h3⟩ := onSome_iff h2
    clear h1 h2
    obtain ⟨b, o, sp⟩ := a
    simp only at ha; subst ha
    simp only [Sem.run_bind, run_rdn hl, Result.andThen_ok, List.forIn_toArray]
    rw [run_bytesOf (fun _ _ => rfl) ByteArray.empty hb]
    simp only [Result.andThen_ok, Sem.run_pure]
    refine ⟨Same.refl _, ?_⟩
    have e0 : ByteArray.empty.data ++ bs.toArray = bs.toArray := by show #[] ++ bs.toArray = _; simp
    rw [e0]
    exact h3
  ·simp at hc
 ·rename_i e hs hd
  split at hc
  ·rename_i he
   simp at hc; subst hc
   obtain ⟨s, hx, h⟩ := onStr_iff h
   rw [hx]
   simp only [convert, Sem.run_bind, run_und hs, run_und hd, Result.andThen_ok, run_und he, Conv.stringToBytes]
   simp only [run_choose, Question.forced, Bool.false_eq_true, if_false, Result.andThen_ok, newRow, run_newObj, Sem.run_bind, Sem.run_pure, markStringish, run_shape]
   have hle : s.size ≤ (Question.appendCap s.size 0 e).cut (w.tape w.drawn (Question.appendCap s.size 0 e)) := by simp only [Question.cut]; omega
   generalize (Question.appendCap s.size 0 e).cut (w.tape w.drawn (Question.appendCap s.size 0 e)) = c at hle ⊢
   have hsz : (Array.map (fun b : UInt8 => Value.int IntKind.u8 ↑b.toNat) s.data ++ Array.replicate (c - s.size) (Value.int IntKind.u8 0)) = (cellsOfBytes s.data.toList ++ List.replicate (c - s.size) (Value.int .u8 0)).toArray := by
    apply Array.ext'; simp [cellsOfBytes]
   have hlen : (cellsOfBytes s.data.toList ++ List.replicate (c - s.size) (Value.int .u8 0)).length = c := by
    have : s.data.toList.length = s.size := rfl
    simp only [cellsOfBytes, List.length_append, List.length_map, List.length_replicate, this]
    omega
   rw [hsz]
   simp only [World.shape?, Array.getElem?_push, if_true, List.size_toArray, hlen, run_freeze, Result.andThen_ok]
   refine ⟨?_, ?_⟩
   ·unfold World.freeze; simp only [Nat.succ_ne_zero, if_false]; exact ⟨rfl, rfl, rfl⟩
   ·have hh := h c hle
    unfold World.freeze
    simp only [Nat.succ_ne_zero, if_false]
    rw [modify_push]
    simpa using hh
  ·simp at hc
 ·simp at hc
end
end Go.WK
/-
 Each operation of the small language does what the loaded operation does (5): places, parts, builtins, calls.
-/
namespace Go.WK
open Go

section
variable {P : Program} {ρ : Operand → Value} {w : World} {κ : Value → Hp → Prop}

theorem run_bound {v : Value} {y n : Nat} (c : BoundsCode) (h : bound v y = some n) : (Instr.sliceBound v y c).run P w = .ok n w := by
 unfold bound at h
 split at h
 ·split at h
  ·rename_i hc; simp at h; subst h; simp [Instr.sliceBound, asIntOf, hc]
  ·simp at h
 ·simp at h
theorem run_bounds {s : Bool} {len cap : Nat} {lo hi mx : Option Value} {r : Nat × Nat × Nat} (h : bounds3 len cap lo hi mx = some r) : (Instr.sliceBounds s len cap lo hi mx).run P w = .ok r w := by
 unfold bounds3 at h
 simp only [Instr.sliceBounds]
 cases mx with
 | none =>
  simp only at h
  cases hi with
  | none =>
   simp only at h
   cases lo with
   | none => simp at h; subst h; simp
   | some v =>
    simp only at h
    cases hb : bound v len with
    | none => simp [hb] at h
    | some l => simp [hb] at h; subst h; simp [run_bound _ hb]
  | some u =>
   simp only at h
   cases hu : bound u cap with
   | none => simp [hu] at h
   | some m =>
    simp only [hu] at h
    cases lo with
    | none => simp at h; subst h; simp [run_bound _ hu]
    | some v =>
     simp only at h
     cases hb : bound v m with
     | none => simp [hb] at h
     | some l => simp [hb] at h; subst h; simp [run_bound _ hb, run_bound _ hu]
 | some x =>
  simp only at h
  cases hx : bound x cap with
  | none => simp [hx] at h
  | some q =>
   simp only [hx] at h
   cases hi with
   | none => simp at h
   | some u =>
    simp only at h
    cases hu : bound u q with
    | none => simp [hu] at h
    | some m =>
     simp only [hu] at h
     cases lo with
     | none => simp at h; subst h; simp [run_bound _ hu, run_bound _ hx]
     | some v =>
      simp only at h
      cases hb : bound v m with
      | none => simp [hb] at h
      | some l => simp [hb] at h; subst h; simp [run_bound _ hb, run_bound _ hu, run_bound _ hx]

theorem add_plain {a : Addr} (h : a.spot = none) (n : Nat) : a.add n = ⟨a.block, a.off + n, none⟩ := by
 obtain ⟨b, o, s⟩ := a
 simp at h; subst h
 exact add_eq b o n

theorem s_slice {t : Nat} {x : Operand} {lo hi mx : Option Operand} {i : I} (hc : compSlice P t x lo hi mx = some i) (h : isem P i ρ w.heap κ) : vpost w κ ((Instr.sliceAt t (ρ x) (lo.map ρ) (hi.map ρ) (mx.map ρ)).run P w) := by
 unfold compSlice at hc
 split at hc
 ·rename_i hu
  obtain rfl := Option.some.inj hc
  obtain ⟨s, hx, h⟩ := onStr_iff h
  obtain ⟨r, hr, h⟩ := onSome_iff h
  rw [hx]
  simp [Instr.sliceAt, Instr.slice, run_und hu, run_bounds (s := false) hr]
  exact ⟨Same.refl _, h⟩
 ·rename_i e hu
  cases hs : szOf P e with
  | none => simp [hs] at hc
  | some k =>
   simp [hs] at hc; subst hc
   obtain ⟨a, n, c, hx, h⟩ := onSlice_iff h
   obtain ⟨r, hr, hp, h⟩ := onSome_iff h
   rw [hx]
   simp only [Instr.sliceAt, Instr.slice, Sem.run_bind, run_und hu, Result.andThen_ok, run_bounds (s := true) hr, run_szOf hs, Sem.run_pure]
   refine ⟨Same.refl _, ?_⟩
   cases a with
   | none => simpa using h
   | some p =>
    rcases hp p rfl with this | this
    ·simp only [Option.map_some, add_plain this] at h ⊢
     exact h
    ·rw [if_pos this] at h
     simpa [this] using h
 ·simp at hc

theorem s_fieldAddr {s f : Nat} {x : Operand} {i : I} (hc : compFieldAddr P s x f = some i) (h : isem P i ρ w.heap κ) : vpost w κ ((Instr.fieldAt s (ρ x) f).run P w) := by
 unfold compFieldAddr at hc
 split at hc
 ·rename_i fields hu
  split at hc
  ·rename_i fl hf
   split at hc
   ·rename_i n hs
    simp at hc; subst hc
    obtain ⟨b, o, hx, h⟩ := onPtr_iff h
    rw [hx]
    simp [Instr.fieldAt, run_und hu, hf, Instr.sureAddr, fieldPlace, run_szOf hs, add_eq]
    exact ⟨Same.refl _, h⟩
   ·simp at hc
  ·simp at hc
 ·simp at hc

theorem s_field {s f : Nat} {x : Operand} {i : I} (hc : compField P s x f = some i) (h : isem P i ρ w.heap κ) : vpost w κ ((Instr.field s (ρ x) f).run P w) := by
 unfold compField at hc
 split at hc
 ·rename_i fields hu
  split at hc
  ·rename_i fl hf
   split at hc
   ·rename_i n ha hs
    simp at hc; subst hc
    simp only [isem] at h
    split at h
    ·rename_i cs hx
     rw [hx]
     simp [Instr.field, run_und hu, hf, asAgg, part, run_aggT ha, run_szOf hs]
     exact ⟨Same.refl _, h⟩
    ·exact h.elim
   ·rename_i ha
    simp at hc; subst hc
    simp only [isem] at h
    split at h
    ·rename_i cs hx
     obtain ⟨v, hv, h⟩ := onSome_iff h
     rw [hx]
     simp [Instr.field, run_und hu, hf, asAgg, part, run_aggT ha, hv]
     exact ⟨Same.refl _, h⟩
    ·exact h.elim
   ·simp at hc
  ·simp at hc
 ·simp at hc

theorem s_indexAddr {t : Nat} {x j : Operand} {i : I} (hc : compIndexAddr P t x j = some i) (h : isem P i ρ w.heap κ) : vpost w κ ((Instr.indexAt t (ρ x) (ρ j)).run P w) := by
 unfold compIndexAddr at hc
 split at hc
 ·rename_i e hu
  cases hs : szOf P e with
  | none => simp [hs] at hc
  | some k =>
   simp [hs] at hc; subst hc
   obtain ⟨a, n, c, hx, h⟩ := onSlice_iff h
   obtain ⟨q, m, hj, hb, h⟩ := onInt_iff h
   obtain ⟨p, hp, h0, h3⟩ := onSome_iff h
   subst hp
   rw [hx, hj]
   simp [Instr.indexAt, asIntOf, run_und hu, hb, run_szOf hs, add_plain h0]
   exact ⟨Same.refl _, h3⟩
 ·rename_i n e hu
  cases hs : szOf P e with
  | none => simp [hs] at hc
  | some k =>
   simp [hs] at hc; subst hc
   obtain ⟨b, o, hx, h⟩ := onPtr_iff h
   obtain ⟨q, m, hj, hb, h⟩ := onInt_iff h
   rw [hx, hj]
   simp [Instr.indexAt, asIntOf, run_und hu, hb, run_szOf hs, Instr.sureAddr, add_eq]
   exact ⟨Same.refl _, h⟩
 ·simp at hc

theorem s_index {t : Nat} {x j : Operand} {i : I} (hc : compIndex P t x j = some i) (h : isem P i ρ w.heap κ) : vpost w κ ((Instr.index t (ρ x) (ρ j)).run P w) := by
 unfold compIndex at hc
 split at hc
 ·rename_i hu
  simp at hc; subst hc
  obtain ⟨s, hx, h⟩ := onStr_iff h
  obtain ⟨q, m, hj, hb, h⟩ := onInt_iff h
  obtain ⟨v, hv, h⟩ := onSome_iff h
  rw [hx, hj]
  have hv' : s[m.toNat]? = some v := hv
  simp [Instr.index, asIntOf, run_und hu, hb, hv']
  exact ⟨Same.refl _, h⟩
 ·simp at hc

theorem s_ext {n : Nat} {x : Operand} (h : isem P (.ext n x) ρ w.heap κ) : vpost w κ ((Instr.extract (ρ x) n).run P w) := by
 simp only [isem] at h
 split at h
 ·rename_i vs hx
  obtain ⟨v, hv, h⟩ := onSome_iff h
  rw [hx]
  simp [Instr.extract, hv]
  exact ⟨Same.refl _, h⟩
 ·exact h.elim

def KK.fits : KK → TypeDesc → Prop
 | .i q, .int q' => q = q'
 | .s, .string => True
 | .b, .bool => True
 | _, _ => False
theorem sameNow_eq {kk : KK} {u : TypeDesc} {a b : Value} (hu : kk.fits u) (ha : key? kk a = true) (hb : key? kk b = true) : Instr.sameNow u a b = some (keyEq a b) := by
 cases kk <;> cases u <;> simp only [KK.fits] at hu <;> cases a <;> simp [key?] at ha <;> cases b <;> simp [key?] at hb
 ·subst ha; subst hb; simp [Instr.sameNow, keyEq, beq_dec]
 ·simp [Instr.sameNow, keyEq, beq_toListBytes, bytes_beq]
 ·simp [Instr.sameNow, keyEq, beq_dec]
theorem run_findNow {kk : KK} {k : Value} {u : TypeDesc} (hu : kk.fits u) (hk : key? kk k = true) : ∀ {es : List MapEntry} {i : Nat}, (∀ e ∈ es, key? kk e.key = true) →
  Instr.findNow u k es i = some (findE k es i)
 | [], i, _ => rfl
 | e :: es, i, h => by
  have h1 := sameNow_eq hu hk (h e (by simp))
  have h2 := run_findNow hu hk (es := es) (i := i + 1) (fun e he => h e (by simp [he]))
  simp only [Instr.findNow, h1, findE]
  cases keyEq k e.key <;> simp [h2]
theorem run_findKey {kk : KK} {t : Nat} {k : Value} {u : TypeDesc} (hu : P.underlying t = some u) (hf : kk.fits u) (hk : key? kk k = true) {es : List MapEntry} (h : ∀ e ∈ es, key? kk e.key = true) :
  (Instr.findKey t k es).run P w = .ok (findE k es 0) w := by
 simp [Instr.findKey, run_und hu, run_findNow hf hk h]
theorem run_checkKey {kk : KK} {t : Nat} {k : Value} {u : TypeDesc} {e : Bool} (n : Nat) (hu : P.underlying t = some u) (hf : kk.fits u) (hk : key? kk k = true) : (Instr.checkKey e (n + 1) t k).run P w = .ok () w := by
 cases kk <;> cases u <;> simp only [KK.fits] at hf <;> cases k <;> simp [key?] at hk <;> simp [Instr.checkKey, run_und hu]
theorem findE_at {k : Value} : ∀ {es : List MapEntry} {i j : Nat} {v : Value}, findE k es i = some (j, v) → i ≤ j ∧ ∃ e, es[j - i]? = some e ∧ keyEq k e.key = true ∧ e.val = v
 | [], i, j, v, h => by simp [findE] at h
 | e :: es, i, j, v, h => by
  unfold findE at h
  split at h
  ·rename_i hk
   simp at h
   obtain ⟨rfl, rfl⟩ := h
   exact ⟨Nat.le_refl _, e, by simp, hk, rfl⟩
  ·obtain ⟨h1, e', h2, h3⟩ := findE_at h
   exact ⟨by omega, e', by rw [show j - i = (j - (i + 1)) + 1 by omega]; simpa using h2, h3⟩
theorem compMap_spec {t e : Nat} {kk : KK} (h : compMap P t = some (kk, e)) : ∃ k u, P.underlying t = some (.map k e) ∧ P.underlying k = some u ∧ kk.fits u := by
 unfold compMap at h
 split at h
 ·rename_i k e' hu
  split at h
  ·rename_i q hk; simp at h; obtain ⟨rfl, rfl⟩ := h; exact ⟨k, _, hu, hk, rfl⟩
  ·rename_i hk; simp at h; obtain ⟨rfl, rfl⟩ := h; exact ⟨k, _, hu, hk, trivial⟩
  ·rename_i hk; simp at h; obtain ⟨rfl, rfl⟩ := h; exact ⟨k, _, hu, hk, trivial⟩
  ·simp at h
 ·simp at h

theorem s_mlk {t : Nat} {m k : Operand} {ok : Bool} {q : KK × Nat} {z : Value} (hc : compMap P t = some q) (hz : (P.info? q.2).bind (·.zero) = some z) (h : isem P (.mlk q.1 z ok m k) ρ w.heap κ) :
  vpost w κ ((Instr.lookup t (ρ m) (ρ k) ok).run P w) := by
 obtain ⟨kk, e⟩ := q
 obtain ⟨kt, u, hu, hk, hf⟩ := compMap_spec hc
 have hzero : (zeroValue e).run P w = .ok z w := by
  cases hi : P.info? e with
  | none => simp [hi] at hz
  | some i => simp [hi] at hz; simp [zeroValue, run_inf hi, hz]
 obtain ⟨h1, h2⟩ := h
 simp only at h2
 split at h2
 ·rename_i hm
  rw [hm]
  simp only [Instr.lookup, Sem.run_bind, run_und hu, Result.andThen_ok, Sem.run_pure, run_checkKey 9999 hk hf h1]
  rw [run_findKey hk hf h1 (es := []) (by simp)]
  simp only [findE, Result.andThen_ok, Sem.run_bind, hzero, Sem.run_pure]
  cases ok <;> exact ⟨Same.refl _, by simpa [lookV] using h2⟩
 ·rename_i r hm
  rw [hm]
  split at h2
  ·rename_i es cl hr
   obtain ⟨h2, h3⟩ := h2
   have hg : (getObj r).run P w = .ok (.map es cl) w := by simp [getObj, Sem.run, hr]
   simp only [Instr.lookup, Sem.run_bind, run_und hu, Result.andThen_ok, hg, Sem.run_pure, run_checkKey 9999 hk hf h1]
   rw [run_findKey hk hf h1 (es := es.toList) (by simpa using h2)]
   cases hfe : findE (ρ k) es.toList 0 with
   | none =>
    rw [hfe] at h3
    simp only [Result.andThen_ok, Sem.run_bind, hzero, Sem.run_pure]
    cases ok <;> exact ⟨Same.refl _, by simpa [lookV] using h3⟩
   | some x =>
    obtain ⟨j, v⟩ := x
    rw [hfe] at h3
    simp only [Result.andThen_ok, Sem.run_bind, Sem.run_pure]
    cases ok <;> exact ⟨Same.refl _, by simpa [lookV] using h3⟩
  ·exact h2.elim
 ·exact h2.elim

theorem sameBits_of {kk : KK} {a b : Value} {n : Nat} (h : keyEq b a = true) : Instr.sameBits n a b = true := by
 cases a <;> cases b <;> simp [keyEq] at h <;> simp [Instr.sameBits, h, beq_toListBytes]
theorem s_mup {t : Nat} {m k v : Operand} {q : KK × Nat} (hc : compMap P t = some q) (h : isem P (.mup q.1 m k v) ρ w.heap κ) : upost w κ ((Instr.mapUpdate t (ρ m) (ρ k) (ρ v)).run P w) := by
 obtain ⟨kk, e⟩ := q
 obtain ⟨kt, u, hu, hk, hf⟩ := compMap_spec hc
 simp only [isem] at h
 split at h
 ·rename_i r hm
  obtain ⟨h1, h2⟩ := h
  rw [hm]
  split at h2
  ·rename_i es cl hr
   obtain ⟨h2, h3⟩ := h2
   have hg : (getObj r).run P w = .ok (.map es cl) w := by simp [getObj, Sem.run, hr]
   have hso : ∀ o, (setObj r o).run P w = .ok () { w with heap := w.heap.setIfInBounds r o } := by intro o; simp [setObj, Sem.run, hr]
   simp only [Instr.mapUpdate, Sem.run_bind, run_und hu, Result.andThen_ok, hg, run_checkKey 9999 hk hf h1]
   rw [run_findKey hk hf h1 (es := es.toList) (by simpa using h2)]
   cases hfe : findE (ρ k) es.toList 0 with
   | none =>
    rw [hfe] at h3
    simp only [Result.andThen_ok, hso]
    exact ⟨⟨rfl, rfl, rfl⟩, h3⟩
   | some x =>
    obtain ⟨j, v'⟩ := x
    rw [hfe] at h3
    obtain ⟨-, e', he, hke, -⟩ := findE_at hfe
    have he' : es[j]? = some e' := by simpa using he
    simp only [Result.andThen_ok, Sem.run_bind, he', Option.map_some, Option.getD_some, Instr.keyThatStays, sameBits_of (kk := kk) (n := 10000) hke, if_true, Sem.run_pure, hso]
    exact ⟨⟨rfl, rfl, rfl⟩, h3⟩
  ·exact h2.elim
 ·exact h.elim

end
end Go.WK
/-
 Each operation of the small language does what the loaded operation does (6): builtins, calls; all in one.
-/
namespace Go.WK
open Go

section
variable {P : Program} {ρ : Operand → Value} {w : World} {κ : Value → Hp → Prop}

theorem zeroCells_eq (z : List Value) (n : Nat) : Builtin.zeroCells z.toArray n = (zerosL z n).toArray := by
 apply Array.ext'
 simp only [Builtin.zeroCells, zerosL, Array.toList_map, Array.toList_range, List.size_toArray]
 apply List.map_congr_left
 intro i _
 simp [getElem!_def, List.getD]
 cases z[i % z.length]? <;> rfl

/-- The cells that are appended, copied. -/
theorem run_first_slice {k n : Nat} {p : Addr} {l : List Value} {m c : Nat} (hp : p.spot = none) (h : rdn w.heap p.block p.off (n * k) = some l) : (Builtin.firstCells k n (.slice (some p) m c)).run P w = .ok l.toArray w := by
 obtain ⟨b, o, s⟩ := p
 simp at hp; subst hp
 simp [Builtin.firstCells, run_rdn h]
theorem run_first_string {k n : Nat} {s : ByteArray} : (Builtin.firstCells k n (.string s)).run P w = .ok (cellsOfBytes (s.data.toList.take n)).toArray w := by
 simp only [Builtin.firstCells, Sem.run_pure]
 congr 1
 apply Array.ext'
 simp [cellsOfBytes, ByteArray.data_extract, List.extract_eq_take_drop]

theorem appSrc_spec {k m : Nat} {y : Value} {l : List Value} (h : appSrc w.heap k y = some (m, l)) : (Builtin.lenOf y).run P w = .ok m w ∧ (Builtin.firstCells k m y).run P w = .ok l.toArray w := by
 unfold appSrc at h
 split at h
 ·simp at h; obtain ⟨rfl, rfl⟩ := h; exact ⟨rfl, by simp [Builtin.firstCells]⟩
 ·rename_i p m' c'
  split at h
  ·rename_i hp
   cases hr : rdn w.heap p.block p.off (m' * k) with
   | none => simp [hr] at h
   | some r =>
    simp [hr] at h; obtain ⟨rfl, rfl⟩ := h
    rcases hp with hp | rfl
    ·exact ⟨rfl, run_first_slice hp hr⟩
    ·rw [Nat.zero_mul] at hr
     obtain rfl := Option.some.inj hr
     exact ⟨rfl, by simp [Builtin.firstCells, loadCells, loadCellsFrom]⟩
  ·simp at h
 ·rename_i s
  simp at h
  obtain ⟨rfl, rfl⟩ := h
  refine ⟨rfl, ?_⟩
  have := run_first_string (P := P) (w := w) (k := k) (n := s.size) (s := s)
  rwa [List.take_of_length_le (l := s.data.toList) (i := s.size) (Nat.le_of_eq rfl)] at this
 ·simp at h
theorem cpySrc_spec {k n m : Nat} {y : Value} {l : List Value} (h : cpySrc w.heap k n y = some (m, l)) : ∃ q, (Builtin.lenOf y).run P w = .ok q w ∧ m = min q n ∧ (Builtin.firstCells k m y).run P w = .ok l.toArray w := by
 unfold cpySrc at h
 split at h
 ·simp at h; obtain ⟨rfl, rfl⟩ := h; exact ⟨_, rfl, rfl, by simp [Builtin.firstCells]⟩
 ·rename_i p m' c'
  split at h
  ·rename_i hp
   cases hr : rdn w.heap p.block p.off (min m' n * k) with
   | none => simp [hr] at h
   | some r => simp [hr] at h; obtain ⟨rfl, rfl⟩ := h; exact ⟨_, rfl, rfl, run_first_slice hp hr⟩
  ·simp at h
 ·rename_i s
  simp at h
  obtain ⟨rfl, rfl⟩ := h
  exact ⟨_, rfl, rfl, run_first_string⟩
 ·simp at h

theorem run_wrn' {l : List Value} {a : Addr} {H' : Hp} (hs : a.spot = none) (h : wrn w.heap a.block a.off l = some H') : (storeCells a l).run P w = .ok () { w with heap := H' } := by
 refine run_wrn (b := a.block) (o := a.off) ?_ hs h
 obtain ⟨b, o, s⟩ := a
 simp at hs; subst hs
 exact add_eq b o 0

theorem s_app {t u e k bytes : Nat} {z : List Value} {x y : Operand} {uu : TypeDesc} (hu : P.underlying t = some (.slice e)) (huu : P.underlying u = some uu) (hui : ∀ q, uu ≠ .int q) (hk : szOf P e = some k) (hb : byOf P e = some bytes) (hz : zeroL P e = some z)
  (ty : Nat) (h : isem P (.app e k bytes z x y) ρ w.heap κ) : vpost w κ ((Builtin.append_ #[t, u] ty #[ρ x, ρ y]).run P w) := by
 obtain ⟨a, n, c, hx, h⟩ := onSlice_iff h
 obtain ⟨⟨m, l⟩, hy, h⟩ := onSome_iff h
 simp only at h
 rw [hx]
 generalize ρ y = Y at hy
 obtain ⟨hlen, hfirst⟩ := appSrc_spec (P := P) hy
 have hzeros : (match uu with | .int _ => true | _ => false) = false := by
  cases uu <;> first | rfl | exact absurd rfl (hui _)
 simp only [Builtin.append_, List.getElem?_toArray, List.getElem?_cons_zero, List.getElem?_cons_succ, Sem.run_bind, run_und hu, run_und huu, Result.andThen_ok, run_szOf hk, Sem.run_pure, hzeros, Bool.false_eq_true, if_false, hlen, Sem.run_ite, Bool.not_false, if_true, hfirst]
 unfold appS at h
 by_cases hc : n + m ≤ c
 ·rw [if_pos hc] at h ⊢
  cases a with
  | none => simp only [Sem.run_bind, hfirst, Result.andThen_ok, Sem.run_pure]; exact ⟨Same.refl _, h⟩
  | some p =>
   obtain ⟨hp, h⟩ := h
   obtain ⟨H', hw, h⟩ := onSome_iff h
   have e1 : (storeCells (p.add (n * k)) l).run P w = .ok () { w with heap := H' } := by
    rw [add_plain hp]
    exact run_wrn' rfl hw
   simp only [Sem.run_bind, hfirst, Result.andThen_ok, Sem.run_pure, e1]
   exact ⟨⟨rfl, rfl, rfl⟩, h⟩
 ·rw [if_neg hc] at h ⊢
  obtain ⟨h1, h2, h3⟩ := h
  obtain ⟨ti, hti, hbi⟩ := run_byOf hb w
  obtain ⟨zv, hzv, hze⟩ := run_zeroL hz { w with drawn := w.drawn + 1 }
  have hti' : (typeInfo e).run P { w with drawn := w.drawn + 1 } = .ok ti { w with drawn := w.drawn + 1 } := by
   have : P.info? e = some ti := by
    cases hi : P.info? e with
    | none => simp [typeInfo, hi] at hti
    | some i => simp [typeInfo, hi] at hti; rw [hti]
   exact run_inf this _
  have hfirst' : (Builtin.firstCells k m Y).run P { w with drawn := w.drawn + 1 } = .ok l.toArray { w with drawn := w.drawn + 1 } := (appSrc_spec (P := P) (w := { w with drawn := w.drawn + 1 }) hy).2
  have hle : n + m ≤ (Question.appendCap (n + m) c e).cut (w.tape w.drawn (Question.appendCap (n + m) c e)) := by simp only [Question.cut]; omega
  have hzc : zv.cells = z.toArray := by rw [← hze]
  simp only [Sem.run_bind, hti, Result.andThen_ok, hbi, h2, or_self, and_false, if_false, Sem.run_ite]
  rw [if_neg (by omega)]
  simp only [Sem.run_bind, run_choose, Question.forced, Bool.false_eq_true, if_false, Result.andThen_ok, hti', run_askRoom]
  generalize (Question.appendCap (n + m) c e).cut (w.tape w.drawn (Question.appendCap (n + m) c e)) = c' at hle ⊢
  cases a with
  | none =>
   obtain ⟨hn, h3⟩ := h3
   subst hn
   have := h3 c' hle
   have e2 : (Builtin.firstCells k 0 (.slice none 0 c)).run P { w with drawn := w.drawn + 1 } = .ok #[] { w with drawn := w.drawn + 1 } := rfl
   simp only [e2, Sem.run_pure, Result.andThen_ok, hfirst', hzv, newRow, Sem.run_bind, run_newObj, hzc, zeroCells_eq]
   refine ⟨⟨rfl, rfl, rfl⟩, ?_⟩
   simpa using this
  | some p =>
   obtain ⟨hp, h3⟩ := h3
   obtain ⟨old, ho, h3⟩ := onSome_iff h3
   have := h3 c' hle
   have e2 := run_first_slice (P := P) (w := { w with drawn := w.drawn + 1 }) (m := n) (c := c) hp ho
   simp only [e2, Sem.run_pure, Result.andThen_ok, hfirst', hzv, newRow, Sem.run_bind, run_newObj, hzc, zeroCells_eq]
   refine ⟨⟨rfl, rfl, rfl⟩, ?_⟩
   simpa using this

theorem s_apz {t u e k bytes : Nat} {z : List Value} {x y : Operand} {q : IntKind} (hu : P.underlying t = some (.slice e)) (huu : P.underlying u = some (.int q)) (hk : szOf P e = some k) (hb : byOf P e = some bytes) (hz : zeroL P e = some z) (hzl : z.length = k) (hk0 : k ≠ 0) (hb0 : bytes ≠ 0)
  (ty : Nat) (h : isem P (.apz e k bytes z x y) ρ w.heap κ) : vpost w κ ((Builtin.append_ #[t, u] ty #[ρ x, ρ y]).run P w) := by
 obtain ⟨a, n, c, hx, h⟩ := onSlice_iff h
 obtain ⟨q', l, hy, ⟨hl0, hl1, hl2⟩, h⟩ := onInt_iff h
 rw [hx, hy]
 obtain ⟨ti, hti, hbi⟩ := run_byOf hb w
 have hti' : ∀ w', (typeInfo e).run P w' = .ok ti w' := by
  have : P.info? e = some ti := by
   cases hi : P.info? e with
   | none => simp [typeInfo, hi] at hti
   | some i => simp [typeInfo, hi] at hti; rw [hti]
  intro w'; exact run_inf this _
 have hzv : ∃ v : Value, (∀ w', (zeroValue e).run P w' = .ok v w') ∧ v.cells = z.toArray := by
  unfold zeroL at hz
  cases hi : P.info? e with
  | none => simp [hi] at hz
  | some i =>
   cases hzz : i.zero with
   | none => simp [hi, hzz] at hz
   | some v => simp [hi, hzz] at hz; exact ⟨v, fun w' => by simp [zeroValue, run_inf hi, hzz], by rw [← hz]⟩
 obtain ⟨zv, hzv, hzc⟩ := hzv
 have wl : IntKind.i64.wrap l = l := by
  unfold IntKind.wrap; simp [IntKind.signed, IntKind.bits]; omega
 have hz0 : l.toNat * k = 0 → (#[] : Array Value) = (zerosL z l.toNat).toArray := by
  intro h0
  have : l.toNat = 0 := by
   rcases Nat.mul_eq_zero.1 h0 with h | h
   ·exact h
   ·exact absurd h hk0
  rw [this]; simp [zerosL]
 have happ : ∀ w', ((if l.toNat * k = 0 then pure #[] else do pure (Builtin.zeroCells (← zeroValue e).cells l.toNat) : Sem (Array Value))).run P w' = .ok (zerosL z l.toNat).toArray w' := by
  intro w'
  by_cases h0 : l.toNat * k = 0
  ·rw [if_pos h0, Sem.run_pure, hz0 h0]
  ·rw [if_neg h0]; simp only [Sem.run_bind, hzv, Result.andThen_ok, Sem.run_pure, hzc, zeroCells_eq]
 have hlt : ¬ (l * (bytes : Int) > 2 ^ 48) := by omega
 have hmx : ¬ (((n + l.toNat : Nat) : Int) > IntKind.i64.max) := by
  have : IntKind.i64.max = 2 ^ 63 - 1 := by decide
  rw [this]; omega
 simp only [Builtin.append_, List.getElem?_toArray, List.getElem?_cons_zero, List.getElem?_cons_succ, Sem.run_bind, run_und hu, run_und huu, Result.andThen_ok, run_szOf hk, Sem.run_pure, Bool.not_true, Bool.false_eq_true, if_false, if_true, asInt, asIntOf, wl, show ¬ l < 0 by omega, hti, hbi, hlt]
 unfold appS at h
 by_cases hc : n + l.toNat ≤ c
 ·rw [if_pos hc] at h ⊢
  cases a with
  | none => simp only [Sem.run_bind, happ, Result.andThen_ok, Sem.run_pure]; exact ⟨Same.refl _, h⟩
  | some p =>
   obtain ⟨hp, h⟩ := h
   obtain ⟨H', hw, h⟩ := onSome_iff h
   have e1 : (storeCells (p.add (n * k)) (zerosL z l.toNat)).run P w = .ok () { w with heap := H' } := by
    rw [add_plain hp]
    exact run_wrn' rfl hw
   simp only [Sem.run_bind, happ, Result.andThen_ok, Sem.run_pure, e1]
   exact ⟨⟨rfl, rfl, rfl⟩, h⟩
 ·rw [if_neg hc] at h ⊢
  obtain ⟨h1, h2, h3⟩ := h
  have hle : n + l.toNat ≤ (Question.appendCap (n + l.toNat) c e).cut (w.tape w.drawn (Question.appendCap (n + l.toNat) c e)) := by simp only [Question.cut]; omega
  simp only [Sem.run_bind, hti, Result.andThen_ok, hbi, hmx, false_and, if_false]
  rw [if_neg (by omega)]
  simp only [Sem.run_bind, run_choose, Question.forced, Bool.false_eq_true, if_false, Result.andThen_ok, hti', run_askRoom]
  generalize (Question.appendCap (n + l.toNat) c e).cut (w.tape w.drawn (Question.appendCap (n + l.toNat) c e)) = c' at hle ⊢
  cases a with
  | none =>
   obtain ⟨hn, h3⟩ := h3
   subst hn
   have := h3 c' hle
   have e2 : (Builtin.firstCells k 0 (.slice none 0 c)).run P { w with drawn := w.drawn + 1 } = .ok #[] { w with drawn := w.drawn + 1 } := rfl
   simp only [e2, Sem.run_pure, Result.andThen_ok, happ, hzv, newRow, Sem.run_bind, run_newObj, hzc, zeroCells_eq]
   refine ⟨⟨rfl, rfl, rfl⟩, ?_⟩
   simpa using this
  | some p =>
   obtain ⟨hp, h3⟩ := h3
   obtain ⟨old, ho, h3⟩ := onSome_iff h3
   have := h3 c' hle
   have e2 := run_first_slice (P := P) (w := { w with drawn := w.drawn + 1 }) (m := n) (c := c) hp ho
   simp only [e2, Sem.run_pure, Result.andThen_ok, happ, hzv, newRow, Sem.run_bind, run_newObj, hzc, zeroCells_eq]
   refine ⟨⟨rfl, rfl, rfl⟩, ?_⟩
   simpa using this

theorem s_cpy {t e k : Nat} {ts : Array Nat} {x y : Operand} (hts : ts[0]? = some t) (hu : P.underlying t = some (.slice e)) (hk : szOf P e = some k) (ty : Nat) (h : isem P (.cpy k x y) ρ w.heap κ) :
  vpost w κ ((Builtin.copy_ ts ty #[ρ x, ρ y]).run P w) := by
 obtain ⟨a, n, c, hx, h⟩ := onSlice_iff h
 obtain ⟨⟨m, l⟩, hy, h⟩ := onSome_iff h
 simp only at h
 rw [hx]
 generalize ρ y = Y at hy
 obtain ⟨q, hlen, hq, hfirst⟩ := cpySrc_spec (P := P) hy
 have hfirst' : (Builtin.firstCells k (Nat.min q n) Y).run P w = .ok l.toArray w := by
  have : Nat.min q n = m := hq.symm
  rw [this]; exact hfirst
 simp only [Builtin.copy_, hts, List.getElem?_toArray, List.getElem?_cons_zero, List.getElem?_cons_succ, Sem.run_bind, run_und hu, Result.andThen_ok, run_szOf hk, Sem.run_pure, hlen, hfirst']
 unfold cpyS at h
 cases a with
 | none =>
  simp only [Sem.run_pure, goInt]
  have : (Nat.min q n) = m := hq.symm
  rw [this]
  exact ⟨Same.refl _, h⟩
 | some p =>
  obtain ⟨hp, h⟩ := h
  obtain ⟨H', hw, h⟩ := onSome_iff h
  have e1 : (storeCells p l).run P w = .ok () { w with heap := H' } := run_wrn' hp hw
  simp only [Sem.run_bind, e1, Result.andThen_ok, Sem.run_pure, goInt]
  have : (Nat.min q n) = m := hq.symm
  rw [this]
  exact ⟨⟨rfl, rfl, rfl⟩, h⟩

theorem maxI_run : ∀ {l : List Value} {k : IntKind} {a : Int} {v : Value}, maxI (.int k a :: l) = some v → (l.foldlM Builtin.max2 (.int k a) : Sem Value).run P w = .ok v w
 | [], k, a, v, h => by simp [maxI] at h; subst h; simp
 | x :: l, k, a, v, h => by
  cases x <;> simp only [maxI, reduceCtorEq] at h
  have := maxI_run h
  simp only [List.foldlM_cons, Sem.run_bind, Builtin.max2, Sem.run_pure, Result.andThen_ok, this]
theorem minI_run : ∀ {l : List Value} {k : IntKind} {a : Int} {v : Value}, minI (.int k a :: l) = some v → (l.foldlM Builtin.min2 (.int k a) : Sem Value).run P w = .ok v w
 | [], k, a, v, h => by simp [minI] at h; subst h; simp
 | x :: l, k, a, v, h => by
  cases x <;> simp only [minI, reduceCtorEq] at h
  have := minI_run h
  simp only [List.foldlM_cons, Sem.run_bind, Builtin.min2, Sem.run_pure, Result.andThen_ok, this]
theorem maxI_head {l : List Value} {v : Value} (h : maxI l = some v) : ∃ k a r, l = .int k a :: r := by
 unfold maxI at h
 split at h
 ·simp at h
 ·exact ⟨_, _, _, rfl⟩
 ·exact ⟨_, _, _, rfl⟩
 ·simp at h
theorem minI_head {l : List Value} {v : Value} (h : minI l = some v) : ∃ k a r, l = .int k a :: r := by
 unfold minI at h
 split at h
 ·simp at h
 ·exact ⟨_, _, _, rfl⟩
 ·exact ⟨_, _, _, rfl⟩
 ·simp at h

theorem s_mks {t e k bytes : Nat} {z : List Value} {l c : Operand} (hu : P.underlying t = some (.slice e)) (hk : szOf P e = some k) (hb : byOf P e = some bytes) (hz : zeroL P e = some z) (hzl : z.length = k) (hk0 : k ≠ 0)
  (h : isem P (.mks e k bytes z l c) ρ w.heap κ) : vpost w κ ((Instr.makeSlice t (ρ l) (ρ c)).run P w) := by
 obtain ⟨q, a, ha, h⟩ := onInt_iff h
 obtain ⟨q', b, hb', h1, h2, h3, h4, h⟩ := onInt_iff h
 obtain ⟨ti, hti, hbi⟩ := run_byOf hb w
 obtain ⟨zv, hzv, hze⟩ := run_zeroL hz w
 have hzc : zv.cells = z.toArray := by rw [← hze]
 have wa : IntKind.i64.wrap a = a := by
  unfold IntKind.wrap; simp [IntKind.signed, IntKind.bits]; omega
 have wb : IntKind.i64.wrap b = b := by
  unfold IntKind.wrap; simp [IntKind.signed, IntKind.bits]; omega
 rw [ha, hb']
 simp only [Instr.makeSlice, Sem.run_bind, run_und hu, Result.andThen_ok, asInt, asIntOf, Sem.run_pure, hti, hbi, wa, wb]
 have t1 : (decide (b < 0) || decide ((bytes : Int) * b > 2 ^ 48)) = false := by simp; omega
 simp only [t1, Bool.false_or, show decide (a < 0) = false by simp; omega, show decide (a > b) = false by simp; omega, Bool.or_self, Bool.false_eq_true, if_false, Sem.run_bind, run_askRoom, run_szOf hk, Result.andThen_ok, Sem.run_ite]
 have fin : ∀ (arr : Array Value), arr = (zerosL z b.toNat).toArray → vpost w κ (Result.ok (.slice (some ⟨w.heap.size, 0, none⟩) a.toNat b.toNat) { w with heap := w.heap.push (.cells arr e) }) := by
  intro arr e'; subst e'; exact ⟨⟨rfl, rfl, rfl⟩, h⟩
 split
 ·rename_i hn
  simp only [Sem.run_pure, Result.andThen_ok, newRow, Sem.run_bind, run_newObj]
  refine fin _ ?_
  have : b.toNat = 0 := by
   rcases Nat.mul_eq_zero.1 hn with h | h
   ·exact h
   ·exact absurd h hk0
  simp [this, zerosL]
 ·simp only [Sem.run_bind, hzv, Sem.run_pure, Result.andThen_ok, newRow, run_newObj]
  refine fin _ ?_
  rw [hzc, ← zeroCells_eq]
  simp only [Builtin.zeroCells, List.size_toArray, hzl]

theorem s_clr {t e k : Nat} {z : List Value} {x : Operand} (hu : P.underlying t = some (.slice e)) (hz : zeroL P e = some z) (ty : Nat) (h : isem P (.clr k z x) ρ w.heap κ) :
  vpost w κ ((Builtin.clear_ #[t] ty #[ρ x]).run P w) := by
 simp only [isem] at h
 obtain ⟨zv, hzv, hze⟩ := run_zeroL hz w
 have hzc : zv.cells = z.toArray := by rw [← hze]
 split at h
 ·rename_i hx
  rw [hx]
  simp only [Builtin.clear_, List.getElem?_toArray, List.getElem?_cons_zero, Sem.run_bind, run_und hu, Result.andThen_ok, Sem.run_pure]
  exact ⟨Same.refl _, h⟩
 ·rename_i p n c hx
  obtain ⟨hp, h6⟩ := h
  obtain ⟨H', hw, h5⟩ := onSome_iff h6
  rw [hx]
  simp only [Builtin.clear_, List.getElem?_toArray, List.getElem?_cons_zero, Sem.run_bind, run_und hu, Result.andThen_ok, Sem.run_pure]
  cases n with
  | zero =>
   simp [zerosL, wrn] at hw
   subst hw
   exact ⟨Same.refl _, h5⟩
  | succ n =>
   have e1 := run_wrn' (P := P) (w := w) hp hw
   simp only [Sem.run_bind, hzv, Result.andThen_ok, hzc, zeroCells_eq, e1, Sem.run_pure]
   exact ⟨⟨rfl, rfl, rfl⟩, h5⟩
 ·exact h.elim

theorem callFunc_post {f : Nat} {args : List Value} (h : Cl P f args w.heap κ) : opost P w κ ((callFunc f args.toArray).run P w) := by
 rcases h with h | h
 case inr =>
  obtain ⟨v, w', h1, h2, h3⟩ := h w rfl
  rw [h1]
  exact ⟨h2, h3⟩
 obtain ⟨hc, h⟩ := h
 unfold callable at hc
 split at hc
 ·rename_i fn hf
  simp only [Bool.and_eq_true, bne_iff_ne, ne_eq, Option.isSome_iff_exists] at hc
  obtain ⟨hn, body, hb⟩ := hc
  have hn' : (fn.name == "runtime.NumGoroutine") = false := by simpa using hn
  simp only [callFunc, Sem.run_bind, run_program, Result.andThen_ok, hf, hn', Bool.false_eq_true, if_false, hb, Option.isNone_some, Sem.run_pure]
  exact h w rfl
 ·simp at hc

end
end Go.WK
/-
 Every operation of the small language does what the loaded operation does.
-/
namespace Go.WK
open Go

section
variable {P : Program} {ρ : Operand → Value} {w : World} {κ : Value → Hp → Prop}

theorem s_pick {c a b : Operand} (h : isem P (.pick c a b) ρ w.heap κ) : opost P w κ ((do pure (.value (if ← asBool (ρ c) then ρ a else ρ b)) : Sem Next).run P w) := by
 obtain ⟨t, ht, h⟩ := onBool_iff h
 rw [ht]
 simp only [asBool, Sem.run_bind, Sem.run_pure, Result.andThen_ok]
 cases t <;> exact ⟨Same.refl _, h⟩

theorem s_builtin {b : Builtin} {ts : Array Nat} {xs : Array Operand} {i : I} {ty : Nat} {cs : Array Bool} (hc : compBuiltin P b ts.toList xs.toList = some i) (h : isem P i ρ w.heap κ) :
  opost P w κ ((builtin b ts ty cs (xs.map ρ)).run P w) := by
 obtain ⟨ts⟩ := ts
 obtain ⟨xs⟩ := xs
 simp only at hc
 unfold compBuiltin at hc
 split at hc
 ·rename_i t _ x r
  have hx0 : (((⟨x :: r⟩ : Array Operand).map ρ)[0]? : Option Value) = some (ρ x) := by simp
  split at hc
  ·rename_i hu
   obtain rfl := Option.some.inj hc
   refine opost_v ?_
   obtain ⟨s, hs, h⟩ := onStr_iff h
   simp only [Builtin.len_, hx0, List.getElem?_toArray, List.getElem?_cons_zero, Sem.run_bind, run_und hu, Result.andThen_ok, hs, Sem.run_pure]
   exact ⟨Same.refl _, h⟩
  ·rename_i hu
   obtain rfl := Option.some.inj hc
   refine opost_v ?_
   obtain ⟨a, n, c, hs, h⟩ := onSlice_iff h
   simp only [Builtin.len_, hx0, List.getElem?_toArray, List.getElem?_cons_zero, Sem.run_bind, run_und hu, Result.andThen_ok, hs, Sem.run_pure]
   exact ⟨Same.refl _, h⟩
  ·rename_i hu
   obtain rfl := Option.some.inj hc
   refine opost_v ?_
   simp only [isem] at h
   split at h
   ·rename_i q hq
    split at h
    ·rename_i es cl hr
     have hg : (getObj q).run P w = .ok (.map es cl) w := by simp [getObj, Sem.run, hr]
     simp only [Builtin.len_, hx0, List.getElem?_toArray, List.getElem?_cons_zero, Sem.run_bind, run_und hu, Result.andThen_ok, hq, hg, Sem.run_pure]
     exact ⟨Same.refl _, h⟩
    ·exact h.elim
   ·rename_i hq
    simp only [Builtin.len_, hx0, List.getElem?_toArray, List.getElem?_cons_zero, Sem.run_bind, run_und hu, Result.andThen_ok, hq, Sem.run_pure]
    exact ⟨Same.refl _, h⟩
   ·exact h.elim
  ·simp at hc
 ·rename_i t _ x r
  have hx0 : (((⟨x :: r⟩ : Array Operand).map ρ)[0]? : Option Value) = some (ρ x) := by simp
  split at hc
  ·rename_i hu
   obtain rfl := Option.some.inj hc
   refine opost_v ?_
   obtain ⟨a, n, c, hs, h⟩ := onSlice_iff h
   simp only [Builtin.cap_, hx0, List.getElem?_toArray, List.getElem?_cons_zero, Sem.run_bind, run_und hu, Result.andThen_ok, hs, Sem.run_pure]
   exact ⟨Same.refl _, h⟩
  ·simp at hc
 ·rename_i t u x y
  have hxs : (⟨[x, y]⟩ : Array Operand).map ρ = #[ρ x, ρ y] := by simp
  split at hc
  ·rename_i e e' hu huu
   split at hc
   ·rename_i k b z hk hb hz
    obtain rfl := Option.some.inj hc
    refine opost_v ?_
    rw [hxs]
    exact s_app hu huu (fun q hq => by cases hq) hk hb hz ty h
   ·simp at hc
  ·rename_i e hu huu
   split at hc
   ·rename_i k b z hk hb hz
    obtain rfl := Option.some.inj hc
    refine opost_v ?_
    rw [hxs]
    exact s_app hu huu (fun q hq => by cases hq) hk hb hz ty h
   ·simp at hc
  ·rename_i e q hu huu
   split at hc
   ·rename_i k b z hk hb hz
    split at hc
    ·rename_i hh
     obtain rfl := Option.some.inj hc
     refine opost_v ?_
     rw [hxs]
     exact s_apz hu huu hk hb hz hh.1 hh.2.1 hh.2.2 ty h
    ·simp at hc
   ·simp at hc
  ·simp at hc
 ·rename_i t _ x y
  have hxs : (⟨[x, y]⟩ : Array Operand).map ρ = #[ρ x, ρ y] := by simp
  split at hc
  ·rename_i e hu
   cases hk : szOf P e with
   | none => simp [hk] at hc
   | some k =>
    simp [hk] at hc; subst hc
    refine opost_v ?_
    rw [hxs]
    exact s_cpy (by simp) hu hk ty h
  ·simp at hc
 ·obtain rfl := Option.some.inj hc
  refine opost_v ?_
  obtain ⟨v, hv, h⟩ := onSome_iff h
  obtain ⟨k, a, r, e⟩ := maxI_head hv
  rw [e] at hv
  have := maxI_run (P := P) (w := w) hv
  simp only [Builtin.max_, Array.toList_map, e]
  rw [this]
  exact ⟨Same.refl _, h⟩
 ·obtain rfl := Option.some.inj hc
  refine opost_v ?_
  obtain ⟨v, hv, h⟩ := onSome_iff h
  obtain ⟨k, a, r, e⟩ := minI_head hv
  rw [e] at hv
  have := minI_run (P := P) (w := w) hv
  simp only [Builtin.min_, Array.toList_map, e]
  rw [this]
  exact ⟨Same.refl _, h⟩
 ·rename_i t x
  have hxs : (⟨[x]⟩ : Array Operand).map ρ = #[ρ x] := by simp
  split at hc
  ·rename_i e hu
   split at hc
   ·rename_i k z hk hz
    obtain rfl := Option.some.inj hc
    refine opost_v ?_
    rw [hxs]
    exact s_clr hu hz ty h
   ·simp at hc
  ·simp at hc
 ·simp at hc

theorem s_call (hρ : ∀ f, ρ (.func f) = .func (.func f) #[] #[]) {c : Call} {i : I} {ty : Nat} (hc : compCall P c = some i) (h : isem P i ρ w.heap κ) : opost P w κ ((do let d ← resolve ρ c ty; invoke d.target d.args : Sem Next).run P w) := by
 obtain ⟨callee, args, ats⟩ := c
 unfold compCall at hc
 simp only at hc
 split at hc
 ·rename_i b
  simp only [resolve, Sem.run_bind, Sem.run_pure, Result.andThen_ok, invoke]
  exact s_builtin hc h
 ·rename_i f
  obtain rfl := Option.some.inj hc
  have e : (args.toList.map ρ).toArray = args.map ρ := by apply Array.ext'; simp
  have := callFunc_post (P := P) (w := w) h
  rw [e] at this
  by_cases hf : ρ (.func f) = .func (.func f) #[] #[]
  ·simp only [resolve, Sem.run_bind, Deferred.ofValue, hf, Sem.run_pure, Result.andThen_ok, invoke]
   simpa using this
  ·exact absurd (hρ f) hf
 ·rename_i x
  obtain rfl := Option.some.inj hc
  simp only [isem] at h
  split at h
  ·rename_i f first captured hx
   have e : (first.toList ++ args.toList.map ρ ++ captured.toList).toArray = first ++ args.map ρ ++ captured := by apply Array.ext'; simp
   have := callFunc_post (P := P) (w := w) h
   rw [e] at this
   simp only [resolve, Sem.run_bind, Deferred.ofValue, hx, Sem.run_pure, Result.andThen_ok, invoke]
   exact this
  ·exact h.elim
 ·simp at hc

theorem isem_sound (hρ : ∀ f, ρ (.func f) = .func (.func f) #[] #[]) {o : Oper} {i : I} (hc : compI P o.op = some i) (h : isem P i ρ w.heap κ) : opost P w κ ((execOp ρ o).run P w) := by
 obtain ⟨dst, op, ty, pos, aft, gd⟩ := o
 simp only at hc
 cases op
 case move x => obtain rfl := Option.some.inj hc; exact ⟨Same.refl _, h⟩
 case assign x => obtain rfl := Option.some.inj hc; exact ⟨Same.refl _, h⟩
 case pick c a b => obtain rfl := Option.some.inj hc; exact s_pick h
 case alloc t =>
  simp only [compI] at hc
  cases hz : zeroL P t with
  | none => simp [hz] at hc
  | some z => simp [hz] at hc; subst hc; exact opost_v (s_new hz h)
 case box t x => obtain rfl := Option.some.inj hc; exact opost_v (s_box h)
 case build t ps => exact opost_v (s_build hc h)
 case buildSlice t len ps => exact opost_v (s_bsl hc h)
 case load t x => exact opost_v (s_load hc h)
 case store t a v =>
  simp only [compI] at hc
  cases hz : szOf P t with
  | none => simp [hz] at hc
  | some z => simp [hz] at hc; subst hc; exact opost_u (s_store hz h)
 case nilCheck x =>
  obtain rfl := Option.some.inj hc
  obtain ⟨b, o, hx, h⟩ := onPtr_iff h
  simp only [execOp, hx]
  exact ⟨Same.refl _, h⟩
 case unOp op t x => obtain rfl := Option.some.inj hc; exact opost_v (s_un h)
 case convert s d x => exact opost_v (s_conv hc h)
 case slice t x lo hi mx => exact opost_v (s_slice hc h)
 case fieldAddr s x f => exact opost_v (s_fieldAddr hc h)
 case field s x f => exact opost_v (s_field hc h)
 case indexAddr t x j => exact opost_v (s_indexAddr hc h)
 case index t x j => exact opost_v (s_index hc h)
 case extract x n => obtain rfl := Option.some.inj hc; exact opost_v (s_ext h)
 case call c => exact s_call hρ hc h
 case mapUpdate t m k v =>
  simp only [compI] at hc
  cases hz : compMap P t with
  | none => simp [hz] at hc
  | some z => simp [hz] at hc; subst hc; exact opost_u (s_mup hz h)
 case insert t m k v =>
  simp only [compI] at hc
  cases hz : compMap P t with
  | none => simp [hz] at hc
  | some z => simp [hz] at hc; subst hc; exact opost_u (s_mup hz h)
 case lookup t m k ok =>
  simp only [compI] at hc
  cases hz : compMap P t with
  | none => simp [hz] at hc
  | some q =>
   simp only [hz, Option.bind_some] at hc
   cases hv : (P.info? q.2).bind (·.zero) with
   | none => rw [hv] at hc; simp at hc
   | some z => rw [hv] at hc; simp at hc; subst hc; exact opost_v (s_mlk hz hv h)
 case makeSlice t l c =>
  simp only [compI, compMakeSlice] at hc
  split at hc
  ·rename_i e hu
   split at hc
   ·rename_i k b z hk hb hz
    split at hc
    ·rename_i hh
     simp at hc; subst hc
     exact opost_v (s_mks hu hk hb hz hh.1 hh.2 h)
    ·simp at hc
   ·simp at hc
  ·simp at hc
 case makeMap t r =>
  cases r with
  | some r => simp [compI] at hc
  | none =>
   obtain rfl := Option.some.inj hc
   refine opost_v ?_
   simp only [Instr.makeMap, Option.map_none, Sem.run_bind, run_newObj, Result.andThen_ok, Sem.run_pure]
   exact ⟨⟨rfl, rfl, rfl⟩, h⟩
 case makeFunc fn first caps =>
  cases fn with
  | func f =>
   simp only [compI] at hc
   split at hc
   ·rename_i hf
    simp at hc; subst hc; subst hf
    refine opost_v ?_
    refine ⟨Same.refl _, ?_⟩
    have e : (caps.toList.map ρ).toArray = caps.map ρ := by apply Array.ext'; simp
    simp only [isem, e] at h
    simpa using h
   ·simp at hc
  | _ => simp [compI] at hc
 case binOp op t x y yt =>
  simp only [compI, compBin] at hc
  refine opost_v ?_
  split at hc
  ·obtain rfl := Option.some.inj hc; exact s_bin h
  ·obtain rfl := Option.some.inj hc; exact s_bin h
  ·rename_i hu; obtain rfl := Option.some.inj hc; exact s_eqb hu rfl h
  ·rename_i hu; obtain rfl := Option.some.inj hc; exact s_eqb hu rfl h
  ·rename_i hu; obtain rfl := Option.some.inj hc; exact s_eqz (nk := .ptr) hu (by trivial) rfl h
  ·rename_i hu; obtain rfl := Option.some.inj hc; exact s_eqz (nk := .sli) hu (by trivial) rfl h
  ·rename_i hu; obtain rfl := Option.some.inj hc; exact s_eqz (nk := .map) hu (by trivial) rfl h
  ·rename_i hu; obtain rfl := Option.some.inj hc; exact s_eqz (nk := .fn) hu (by trivial) rfl h
  ·rename_i hu; obtain rfl := Option.some.inj hc; exact s_eqz (nk := .ptr) hu (by trivial) rfl h
  ·rename_i hu; obtain rfl := Option.some.inj hc; exact s_eqz (nk := .sli) hu (by trivial) rfl h
  ·rename_i hu; obtain rfl := Option.some.inj hc; exact s_eqz (nk := .map) hu (by trivial) rfl h
  ·rename_i hu; obtain rfl := Option.some.inj hc; exact s_eqz (nk := .fn) hu (by trivial) rfl h
  ·rename_i hu
   split at hc
   ·rename_i hg
    cases hl : leavesK P 100 t with
    | none => simp [hl] at hc
    | some L => simp [hl] at hc; subst hc; exact s_eqs hu hl hg rfl h
   ·simp at hc
  ·rename_i hu
   split at hc
   ·rename_i hg
    cases hl : leavesK P 100 t with
    | none => simp [hl] at hc
    | some L => simp [hl] at hc; subst hc; exact s_eqs hu hl hg rfl h
   ·simp at hc
  ·simp at hc
 all_goals simp [compI] at hc
end
end Go.WK
/-
 Code in the small language, the translation of loaded functions into it, and that it is sound.
-/
namespace Go.WK
open Go

/-- An operation, the slot that it writes, and its guard. -/
inductive O where
 | s (d : Nat) (i : I)
 | e (i : I)
 | g (d t : Nat) (b : Bool) (i : I)
 | ge (t : Nat) (b : Bool) (i : I)
def O.dst : O → Option Nat
 | .s d _ => some d
 | .g d _ _ _ => some d
 | _ => none
def updO (f : Fr) : Option Nat → Value → Fr
 | none, _ => f
 | some d, v => upd f d v
def O.op : O → I
 | .s _ i => i
 | .e i => i
 | .g _ _ _ i => i
 | .ge _ _ i => i

def owp (P : Program) (o : O) (f : Fr) (H : Hp) (K : Fr → Hp → Prop) : Prop :=
 match o with
 | .s d i => isem P i (ev f) H fun v H' => K (upd f d v) H'
 | .e i => isem P i (ev f) H fun _ H' => K f H'
 | .g d t b i => onG (f t) b (isem P i (ev f) H fun v H' => K (upd f d v) H') (K (upd f d undef) H)
 | .ge t b i => onG (f t) b (isem P i (ev f) H fun _ H' => K f H') (K f H)
def rwp (P : Program) : List O → Fr → Hp → (Fr → Hp → Prop) → Prop
 | [], f, H, K => K f H
 | o :: l, f, H, K => owp P o f H fun f' H' => rwp P l f' H' K
def rdy (l : List (O × List Nat)) (rem : List Nat) (i : Nat) : Bool := match l[i]? with | some o => o.2.all fun j => !rem.contains j | none => false
/-- In whatever order the edges allow. -/
def dwp (P : Program) (l : List (O × List Nat)) : Nat → List Nat → Fr → Hp → (Fr → Hp → Prop) → Prop
 | 0, _, f, H, K => K f H
 | n + 1, rem, f, H, K => ∀ i o, i ∈ rem → rdy l rem i = true → l[i]? = some o → owp P o.1 f H fun f' H' => dwp P l n (rem.erase i) f' H' K

/-- Blocks of S that were there are as they were. -/
def KeepOn (S : Nat → Prop) (H H' : Hp) : Prop := H.size ≤ H'.size ∧ ∀ b, b < H.size → S b → H'[b]? = H[b]?
/-- A load tells, too, that it is of a block of S. -/
def isemS (P : Program) (S : Nat → Prop) (i : I) (ρ : Operand → Value) (H : Hp) (κ : Value → Hp → Prop) : Prop :=
 match i with
 | .ld x => onPtr (ρ x) fun b o => S b ∧ onSome (cell H b o) fun v => κ v H
 | .ldn n x => onPtr (ρ x) fun b o => S b ∧ onSome (rdn H b o n) fun l => κ (.agg l.toArray) H
 | i => isem P i ρ H κ
def owpS (P : Program) (S : Nat → Prop) (o : O) (f : Fr) (H : Hp) (K : Fr → Hp → Prop) : Prop :=
 match o with
 | .s d i => isemS P S i (ev f) H fun v H' => K (upd f d v) H'
 | .e i => isemS P S i (ev f) H fun _ H' => K f H'
 | .g d t b i => onG (f t) b (isemS P S i (ev f) H fun v H' => K (upd f d v) H') (K (upd f d undef) H)
 | .ge t b i => onG (f t) b (isemS P S i (ev f) H fun _ H' => K f H') (K f H)

/-- In one order; what is marked keeps the blocks of S. -/
def lwp (P : Program) (S : Nat → Prop) : List (Bool × O) → Fr → Hp → (Fr → Hp → Prop) → Prop
 | [], f, H, K => K f H
 | (b, o) :: l, f, H, K => owpS P S o f H fun f' H' => (b = true → KeepOn S H H') ∧ lwp P S l f' H' K

/-! Regions where blocks are made, of which some may be made ahead of a call or behind it. -/
def Ext (H H' : Hp) : Prop := H.size ≤ H'.size ∧ ∀ b, b < H.size → H'[b]? = H[b]?
inductive Kd where
 | st
 | al
 | ac (pre : List O)
 | fi (need : Bool)
/-- What an operation makes: the cells, their type, the value for a block's number. -/
def allocOf (i : I) (ρ : Operand → Value) : Option (Array Value × Nat × (Nat → Value)) := match i with
 | .new t z => some (z.toArray, t, fun b => .pointer (some ⟨b, 0, none⟩))
 | .box t x => some ((ρ x).cells, t, fun b => .pointer (some ⟨b, 0, none⟩))
 | .bsl t len z ps => (fillL z (ps.map fun p => (p.1, p.2.1, ρ p.2.2))).map fun l => (l.toArray, t, fun b => .slice (some ⟨b, 0, none⟩) len len)
 | _ => none
def alOk (f : Fr) : O → Prop
 | .s _ i => (allocOf i (ev f)).isSome = true
 | _ => False
def preOk (f : Fr) : List O → Prop
 | [] => True
 | o :: l => alOk f o ∧ preOk f l
def acP (S F A : Nat → Prop) (H H2 : Hp) (k : (Nat → Prop) → Prop) : Prop := ∃ F' : Nat → Prop, (∀ x, F' x → F x ∨ H.size ≤ x) ∧ (∀ x, F' x → x < H2.size) ∧ H.size ≤ H2.size ∧ (∀ x, x < H.size → (¬ F x ∧ ¬ A x) ∨ S x → H2[x]? = H[x]?) ∧ k F'
def alP (n0 : Nat) (F A : Nat → Prop) (H : Hp) (c : Array Value) (t : Nat) (k : Nat → Hp → Prop) : Prop := ∀ b H', Ext H H' → n0 ≤ b → b < H'.size → ¬ F b → ¬ A b → H'[b]? = some (.cells c t) → k b H'
/-- F: the blocks that calls may write; A: the blocks that the region has made; n0: how many there were. -/
def awl (P : Program) (S : Nat → Prop) (n0 : Nat) : List (Kd × O) → (Nat → Prop) → (Nat → Prop) → Fr → Hp → (Fr → Hp → Prop) → Prop
 | [], _, _, f, H, K => K f H
 | (.st, o) :: l, F, A, f, H, K => owpS P S o f H fun f' H' => awl P S n0 l F A f' H' K
 | (.al, .s d i) :: l, F, A, f, H, K => onSome (allocOf i (ev f)) fun r => alP n0 F A H r.1 r.2.1 fun b H' => awl P S n0 l F (fun x => A x ∨ x = b) (upd f d (r.2.2 b)) H' K
 | (.al, _) :: _, _, _, _, _, _ => False
 | (.ac pre, o) :: l, F, A, f, H, K => preOk f pre ∧ ∀ H1, Ext H H1 → owp P o f H1 fun f' H2 => acP S F A H1 H2 fun F' => awl P S n0 l F' A f' H2 K
 | (.fi need, o) :: l, F, A, f, H, K => owp P o f H fun f' H2 => (need = true → KeepOn S H H2) ∧ awl P S n0 l F A f' H2 K

inductive C where
 | skip
 | reg (l : List O)
 | drw (l : List (O × List Nat))
 | lin (l : List (Bool × O))
 | alc (l : List (Kd × O))
 | seq (a b : C)
 | cnd (x : Operand) (a b : C)
 | blk (id : Nat) (a : C)
 | loop (a : C)
 | exit (id : Nat)
 | ret
inductive Ex where
 | normal
 | exit (id : Nat)
 | ret

def thenQ (N : Fr → Hp → Prop) (Q : Ex → Fr → Hp → Prop) (e : Ex) (f : Fr) (H : Hp) : Prop := match e with | .normal => N f H | e => Q e f H
def blkQ (id : Nat) (Q : Ex → Fr → Hp → Prop) (e : Ex) (f : Fr) (H : Hp) : Prop := match e with | .exit j => if j = id then Q .normal f H else Q (.exit j) f H | e => Q e f H

def cwp (P : Program) : C → Fr → Hp → (Ex → Fr → Hp → Prop) → Prop
 | .skip, f, H, Q => Q .normal f H
 | .reg l, f, H, Q => rwp P l f H (Q .normal)
 | .drw l, f, H, Q => dwp P l l.length (List.range l.length) f H (Q .normal)
 | .lin l, f, H, Q => ∃ S, lwp P S l f H (Q .normal)
 | .alc l, f, H, Q => ∃ S F : Nat → Prop, (∀ x, F x → x < H.size) ∧ awl P S H.size l F (fun _ => False) f H (Q .normal)
 | .seq a b, f, H, Q => cwp P a f H (thenQ (fun f H => cwp P b f H Q) Q)
 | .cnd x a b, f, H, Q => onBool (ev f x) fun t => match t with | true => cwp P a f H Q | false => cwp P b f H Q
 | .blk id a, f, H, Q => cwp P a f H (blkQ id Q)
 | .loop a, f, H, Q => ∃ J : Nat → Fr → Hp → Prop, (∃ n, J n f H) ∧ ∀ n f H, J n f H → cwp P a f H (thenQ (fun f' H' => ∃ m, m < n ∧ J m f' H') Q)
 | .exit id, f, H, Q => Q (.exit id) f H
 | .ret, f, H, Q => Q .ret f H

theorem isem_mono {P : Program} {i : I} {ρ : Operand → Value} {H : Hp} {κ κ' : Value → Hp → Prop} (hk : ∀ v H, κ v H → κ' v H) (h : isem P i ρ H κ) : isem P i ρ H κ' := by
 have os : ∀ {α : Type} {x : Option α} {p q : α → Prop}, (∀ a, p a → q a) → onSome x p → onSome x q := by
  intro α x p q hpq hh; cases x with | none => exact hh | some a => exact hpq a hh
 have op : ∀ {v : Value} {p q : Nat → Nat → Prop}, (∀ a b, p a b → q a b) → onPtr v p → onPtr v q := by
  intro v p q hpq hh; obtain ⟨b, o, rfl, hh⟩ := onPtr_iff hh; exact hpq _ _ hh
 have osl : ∀ {v : Value} {p q : Option Addr → Nat → Nat → Prop}, (∀ a b c, p a b c → q a b c) → onSlice v p → onSlice v q := by
  intro v p q hpq hh; obtain ⟨a, b, c, rfl, hh⟩ := onSlice_iff hh; exact hpq _ _ _ hh
 have oi : ∀ {v : Value} {p q : Int → Prop}, (∀ a, p a → q a) → onInt v p → onInt v q := by
  intro v p q hpq hh; obtain ⟨a, b, rfl, hh⟩ := onInt_iff hh; exact hpq _ hh
 have ost : ∀ {v : Value} {p q : ByteArray → Prop}, (∀ a, p a → q a) → onStr v p → onStr v q := by
  intro v p q hpq hh; obtain ⟨a, rfl, hh⟩ := onStr_iff hh; exact hpq _ hh
 have ob : ∀ {v : Value} {p q : Bool → Prop}, (∀ a, p a → q a) → onBool v p → onBool v q := by
  intro v p q hpq hh; obtain ⟨a, rfl, hh⟩ := onBool_iff hh; exact hpq _ hh
 cases i <;> simp only [isem] at h ⊢
 case mv => exact hk _ _ h
 case pick => exact ob (fun _ => hk _ _) h
 case new => exact hk _ _ h
 case box => exact hk _ _ h
 case bld => exact os (fun _ => hk _ _) h
 case bsl => exact os (fun _ => hk _ _) h
 case ld => exact op (fun _ _ => os fun _ => hk _ _) h
 case ldn => exact op (fun _ _ => os fun _ => hk _ _) h
 case st => exact op (fun _ _ ⟨h1, h2⟩ => ⟨h1, os (fun _ => hk _ _) h2⟩) h
 case nck => exact op (fun _ _ => hk _ _) h
 case bin => exact os (fun _ => hk _ _) h
 case eqb => exact ob (fun _ => ob fun _ => hk _ _) h
 case eqz => exact os (fun _ => hk _ _) h
 case eqs => exact os (fun _ => hk _ _) h
 case un => exact os (fun _ => hk _ _) h
 case cvi => exact oi (fun _ => hk _ _) h
 case cvs => exact ost (fun _ => hk _ _) h
 case cbs => exact osl (fun a _ _ h => by cases a with | none => exact hk _ _ h | some a => exact ⟨h.1, os (fun _ => os fun _ => hk _ _) h.2⟩) h
 case csb => exact ost (fun _ h c hc => hk _ _ (h c hc)) h
 case sl => exact osl (fun _ _ _ => os fun _ h => ⟨h.1, hk _ _ h.2⟩) h
 case sls => exact ost (fun _ => os fun _ => hk _ _) h
 case fa => exact op (fun _ _ => hk _ _) h
 case fld n off x =>
  cases n <;> simp only at h ⊢
  ·split at h
   ·exact os (fun _ => hk _ _) h
   ·exact h
  ·split at h
   ·exact hk _ _ h
   ·exact h
 case ia => exact osl (fun _ _ _ => oi fun _ h => ⟨h.1, os (fun _ h => ⟨h.1, hk _ _ h.2⟩) h.2⟩) h
 case ixs => exact ost (fun _ => oi fun _ h => ⟨h.1, os (fun _ => hk _ _) h.2⟩) h
 case ext =>
  split at h
  ·exact os (fun _ => hk _ _) h
  ·exact h
 case len => exact osl (fun _ _ _ => hk _ _) h
 case slen => exact ost (fun _ => hk _ _) h
 case cap => exact osl (fun _ _ _ => hk _ _) h
 case mlen =>
  split at h
  ·split at h
   ·exact hk _ _ h
   ·exact h
  ·exact hk _ _ h
  ·exact h
 case app =>
  refine osl (fun a n c => os fun r h => ?_) h
  unfold appS at h ⊢
  split
  ·rename_i hc
   rw [if_pos hc] at h
   cases a with
   | none => exact hk _ _ h
   | some p => exact ⟨h.1, os (fun _ => hk _ _) h.2⟩
  ·rename_i hc
   rw [if_neg hc] at h
   refine ⟨h.1, h.2.1, ?_⟩
   have h3 := h.2.2
   cases a with
   | none => exact ⟨h3.1, fun c' hc' => hk _ _ (h3.2 c' hc')⟩
   | some p => exact ⟨h3.1, os (fun _ h c' hc' => hk _ _ (h c' hc')) h3.2⟩
 case apz =>
  refine osl (fun a n c => oi fun r h => ⟨h.1, ?_⟩) h
  have h := h.2
  unfold appS at h ⊢
  split
  ·rename_i hc
   rw [if_pos hc] at h
   cases a with
   | none => exact hk _ _ h
   | some p => exact ⟨h.1, os (fun _ => hk _ _) h.2⟩
  ·rename_i hc
   rw [if_neg hc] at h
   refine ⟨h.1, h.2.1, ?_⟩
   have h3 := h.2.2
   cases a with
   | none => exact ⟨h3.1, fun c' hc' => hk _ _ (h3.2 c' hc')⟩
   | some p => exact ⟨h3.1, os (fun _ h c' hc' => hk _ _ (h c' hc')) h3.2⟩
 case iaa => exact op (fun _ _ => oi fun _ h => ⟨h.1, hk _ _ h.2⟩) h
 case cpy =>
  refine osl (fun a n c => os fun r h => ?_) h
  unfold cpyS at h ⊢
  cases a with
  | none => exact hk _ _ h
  | some p => exact ⟨h.1, os (fun _ => hk _ _) h.2⟩
 case call => exact h.mono hk
 case callv =>
  split at h
  ·exact h.mono hk
  ·exact h
 case mkf => exact hk _ _ h
 case mkm => exact hk _ _ h
 case mup =>
  split at h
  ·refine ⟨h.1, ?_⟩
   have h2 := h.2
   split at h2
   ·refine ⟨h2.1, ?_⟩
    have h3 := h2.2
    split at h3 <;> exact hk _ _ h3
   ·exact h2
  ·exact h
 case mlk =>
  refine ⟨h.1, ?_⟩
  have h2 := h.2
  split at h2
  ·exact hk _ _ h2
  ·split at h2
   ·exact ⟨h2.1, hk _ _ h2.2⟩
   ·exact h2
  ·exact h2
 case mks => exact oi (fun _ => oi fun _ h => ⟨h.1, h.2.1, h.2.2.1, h.2.2.2.1, hk _ _ h.2.2.2.2⟩) h
 case mx => exact os (fun _ => hk _ _) h
 case mn => exact os (fun _ => hk _ _) h
 case clr =>
  split at h
  ·exact hk _ _ h
  ·exact ⟨h.1, os (fun _ => hk _ _) h.2⟩
  ·exact h

end Go.WK
/-
 The translation of loaded code into the small language, and that it is sound.
-/
namespace Go.WK
open Go

def compO (P : Program) (ops : Array Oper) (o : Oper) : Option O :=
 match compI P o.op, o.guard, o.dst with
 | some i, none, some d => some (.s d i)
 | some i, none, none => some (.e i)
 | some i, some (j, b), some d => ((ops[j]?).bind (·.dst)).map fun t => .g d t b i
 | some i, some (j, b), none => ((ops[j]?).bind (·.dst)).map fun t => .ge t b i
 | _, _, _ => none
def depsOf (o : Oper) : List Nat := (o.after.toList.filter fun e => Region.binds .any e).map (·.on)
def compOs (P : Program) (ops : Array Oper) : List Oper → Option (List O)
 | [] => some []
 | o :: l => match compO P ops o, compOs P ops l with | some a, some r => some (a :: r) | _, _ => none
/-- Each edge leads backwards. -/
def backOk : Nat → List Oper → Bool
 | _, [] => true
 | k, o :: l => (depsOf o).all (fun j => decide (j < k)) && backOk (k + 1) l

def comp (P : Program) : Code → Option C
 | .skip => some .skip
 | .region _ ops false => (compOs P ops ops.toList).map .reg
 | .region _ ops true => match compOs P ops ops.toList with
  | some l => if backOk 0 ops.toList then some (.drw (l.zip (ops.toList.map depsOf))) else none
  | none => none
 | .seq a b => match comp P a, comp P b with | some x, some y => some (.seq x y) | _, _ => none
 | .cond x a b => match comp P a, comp P b with | some p, some q => some (.cnd x p q) | _, _ => none
 | .block id a => (comp P a).map (.blk id)
 | .loop a => (comp P a).map .loop
 | .exit id => some (.exit id)
 | .ret => some .ret
 | _ => none

def O.slots (n : Nat) : O → Bool
 | .s d _ => decide (d < n)
 | .g d _ _ _ => decide (d < n)
 | _ => true
def C.slots (n : Nat) : C → Bool
 | .reg l => l.all (O.slots n)
 | .drw l => l.all fun o => o.1.slots n
 | .seq a b => a.slots n && b.slots n
 | .cnd _ a b => a.slots n && b.slots n
 | .blk _ a => a.slots n
 | .loop a => a.slots n
 | _ => true

def fr (a : Act) : Fr := fun t => a.tmps.getD t undef
def Gd (n : Nat) (a : Act) : Prop := a.tmps.size = n ∧ a.defers = []
theorem eval_ev (a : Act) : a.eval = ev (fr a) := by
 funext x
 cases x <;> rfl
theorem fr_put {n d : Nat} {a : Act} (hg : Gd n a) (hd : d < n) (v : Value) : fr (a.put (some d) v) = upd (fr a) d v := by
 funext t
 simp only [fr, upd, Act.put, Array.getD_eq_getD_getElem?, Array.getElem?_setIfInBounds]
 have hs : d < a.tmps.size := by rw [hg.1]; exact hd
 by_cases h : t = d
 ·subst h; simp [hs]
 ·have : (t == d) = false := by simpa using h
  rw [if_neg (fun e : d = t => h e.symm), this]
  rfl
theorem Gd.put {n : Nat} {a : Act} (hg : Gd n a) (d : Option Nat) (v : Value) : Gd n (a.put d v) := by
 cases d with
 | none => exact hg
 | some d => exact ⟨by simp [Act.put, hg.1], by simp [Act.put, hg.2]⟩

section
variable {P : Program} {n : Nat}

theorem upon_of {o : Oper} {a : Act} {w : World} {κ : Value → Hp → Prop} {r : Result Next} {next : Act → World → Prop} {Q : Exit → Act → World → Prop} (h : opost P w κ r) (hn : ∀ v w', Same w w' → κ v w'.heap → next (a.put o.dst v) w') : o.upon P a next Q r := by
 cases r with
 | halt x w' => exact h.elim
 | ok x w' =>
  cases x <;> simp only [opost] at h <;> simp only [Oper.upon]
  case value v => exact hn _ _ h.1 h.2
  case skip => exact hn _ _ h.1 h.2
  case enter f args =>
   refine Calls.mono h ?_
   rintro e w'' ⟨hs, v, rfl, hk⟩
   exact hn _ _ hs hk

theorem yielded_none {ops : Array Oper} {tmps : Array Value} {j t : Nat} (ht : (ops[j]?).bind (·.dst) = some t) (a : Act) (ha : a.tmps = tmps) : yielded ops tmps j = match fr a t with | .bool b => some b | _ => none := by
 unfold yielded
 rw [ht]
 simp only [Option.bind_some, fr, ha, Array.getD_eq_getD_getElem?]
 cases h : tmps[t]? with
 | none => simp [undef]
 | some v => cases v <;> rfl

/-- One operation of a region. -/
theorem owp_op {ops : Array Oper} {o : Oper} {o' : O} {a : Act} {w : World} {K : Fr → Hp → Prop} {next : Act → World → Prop} {Q : Exit → Act → World → Prop} (hc : compO P ops o = some o') (hk : o'.slots n = true) (hg : Gd n a)
  (h : owp P o' (fr a) w.heap K) (hn : ∀ a' w', Gd n a' → Same w w' → K (fr a') w'.heap → next a' w') :
  if Region.wanted o (yielded ops a.tmps) then o.wp P a w next Q else next (a.put o.dst undef) w := by
 have hρ : ∀ f, ev (fr a) (.func f) = .func (.func f) #[] #[] := fun _ => rfl
 unfold compO at hc
 split at hc
 ·rename_i i d hi hgd hd
  obtain rfl := Option.some.inj hc
  have hd' : d < n := by simpa [O.slots] using hk
  simp only [Region.wanted, hgd, if_true]
  unfold Oper.wp
  rw [eval_ev]
  simp only [owp] at h
  refine upon_of (isem_sound hρ hi h) fun v w' hs hK => hn _ _ (hg.put _ _) hs ?_
  rw [hd, fr_put hg hd']
  exact hK
 ·rename_i i hi hgd hd
  obtain rfl := Option.some.inj hc
  simp only [Region.wanted, hgd, if_true]
  unfold Oper.wp
  rw [eval_ev]
  simp only [owp] at h
  refine upon_of (isem_sound hρ hi h) fun v w' hs hK => hn _ _ (hg.put _ _) hs ?_
  rw [hd]
  exact hK
 ·rename_i i j b d hi hgd hd
  cases ht : (ops[j]?).bind (·.dst) with
  | none => simp [ht] at hc
  | some t =>
   simp [ht] at hc; subst hc
   have hd' : d < n := by simpa [O.slots] using hk
   have hy := yielded_none ht a rfl
   simp only [owp] at h
   simp only [Region.wanted, hgd, hy]
   have skip : K (upd (fr a) d undef) w.heap → next (a.put o.dst undef) w := fun hK => by
    refine hn _ _ (hg.put _ _) (Same.refl _) ?_
    rw [hd, fr_put hg hd']; exact hK
   have go : isem P i (ev (fr a)) w.heap (fun v H' => K (upd (fr a) d v) H') → o.wp P a w next Q := fun h => by
    unfold Oper.wp
    rw [eval_ev]
    refine upon_of (isem_sound hρ hi h) fun v w' hs hK => hn _ _ (hg.put _ _) hs ?_
    rw [hd, fr_put hg hd']
    exact hK
   unfold onG at h
   split at h
   ·rename_i c hv
    rw [hv]
    by_cases hcb : c = b
    ·subst hcb; simp at h ⊢; exact go h
    ·simp [hcb] at h ⊢; exact skip h
   ·rename_i hv
    have : (match fr a t with | .bool b => some b | _ => none) = none := by
     split
     ·rename_i c hc; exact absurd hc (hv c)
     ·rfl
    rw [this]
    simp
    exact skip h
 ·rename_i i j b hi hgd hd
  cases ht : (ops[j]?).bind (·.dst) with
  | none => simp [ht] at hc
  | some t =>
   simp [ht] at hc; subst hc
   have hy := yielded_none ht a rfl
   simp only [owp] at h
   simp only [Region.wanted, hgd, hy]
   have skip : K (fr a) w.heap → next (a.put o.dst undef) w := fun hK => by
    refine hn _ _ (hg.put _ _) (Same.refl _) ?_
    rw [hd]; exact hK
   have go : isem P i (ev (fr a)) w.heap (fun v H' => K (fr a) H') → o.wp P a w next Q := fun h => by
    unfold Oper.wp
    rw [eval_ev]
    refine upon_of (isem_sound hρ hi h) fun v w' hs hK => hn _ _ (hg.put _ _) hs ?_
    rw [hd]
    exact hK
   unfold onG at h
   split at h
   ·rename_i c hv
    rw [hv]
    by_cases hcb : c = b
    ·subst hcb; simp at h ⊢; exact go h
    ·simp [hcb] at h ⊢; exact skip h
   ·rename_i hv
    have : (match fr a t with | .bool b => some b | _ => none) = none := by
     split
     ·rename_i c hc; exact absurd hc (hv c)
     ·rfl
    rw [this]
    simp
    exact skip h
 ·simp at hc

theorem compOs_get {ops : Array Oper} : ∀ {l : List Oper} {m : List O}, compOs P ops l = some m → m.length = l.length ∧ ∀ (i : Nat) (o : Oper), l[i]? = some o → ∃ o', m[i]? = some o' ∧ compO P ops o = some o'
 | [], m, h => by simp [compOs] at h; subst h; simp
 | o :: l, m, h => by
  unfold compOs at h
  cases h1 : compO P ops o with
  | none => simp [h1] at h
  | some x =>
   cases h2 : compOs P ops l with
   | none => simp [h1, h2] at h
   | some r =>
    simp [h1, h2] at h
    subst h
    obtain ⟨g1, g2⟩ := compOs_get h2
    refine ⟨by simp [g1], fun i y hy => ?_⟩
    cases i with
    | zero => simp at hy; subst hy; exact ⟨x, by simp, h1⟩
    | succ i => simp at hy; simpa using g2 i y hy

def post (w : World) (n : Nat) (Q : Ex → Fr → Hp → Prop) : Exit → Act → World → Prop := fun e a' w' => Gd n a' ∧ Same w w' ∧ match e with
 | .normal => Q .normal (fr a') w'.heap
 | .exit id => Q (.exit id) (fr a') w'.heap
 | .ret => Q .ret (fr a') w'.heap
 | _ => False

theorem rwp_ops {ops : Array Oper} {m : List O} {Q : Exit → Act → World → Prop} (hm : compOs P ops ops.toList = some m) (hk : m.all (O.slots n) = true) :
  ∀ (k i : Nat) (a : Act) (w : World) (K : Fr → Hp → Prop), i + k = ops.size → Gd n a → rwp P (m.drop i) (fr a) w.heap K → (∀ a' w', Gd n a' → Same w w' → K (fr a') w'.heap → Q .normal a' w') →
   wpOps P ops Q (List.range' i k) a w := by
 obtain ⟨g1, g2⟩ := compOs_get hm
 intro k
 induction k with
 | zero =>
  intro i a w K hi hg h hn
  rw [List.drop_of_length_le (by rw [g1]; simp; omega)] at h
  exact hn a w hg (Same.refl _) h
 | succ k ih =>
  intro i a w K hi hg h hn
  have hlt : i < ops.size := by omega
  have ho : ops[i]? = some ops[i] := Array.getElem?_eq_getElem hlt
  obtain ⟨o', e1, e2⟩ := g2 i ops[i] (by rw [Array.getElem?_toList]; exact ho)
  have hl : i < m.length := by rw [g1]; exact hlt
  have hd : m.drop i = o' :: m.drop (i + 1) := by
   rw [List.drop_eq_getElem_cons hl]
   have := List.getElem?_eq_getElem hl
   rw [e1] at this
   rw [← Option.some.inj this]
  rw [hd] at h
  rw [List.range'_succ, wpOps_cons]
  unfold wpOp
  rw [ho]
  simp only
  have hs : o'.slots n = true := List.all_eq_true.1 hk o' (List.mem_of_getElem? e1)
  have := owp_op (Q := Q) (next := wpOps P ops Q (List.range' (i + 1) k)) e2 hs hg h (fun a' w' hg' hs' hK => ih (i + 1) a' w' K (by omega) hg' hK fun a'' w'' hg'' hs'' hK' => hn a'' w'' hg'' (hs'.trans hs'') hK')
  split
  ·rename_i hw; rw [if_pos hw] at this; exact .inl this
  ·rename_i hw; rw [if_neg hw] at this; exact this

end
end Go.WK
/-
 The translation of loaded code into the small language is sound (2): regions whose order is open; code; functions.
-/
namespace Go.WK
open Go

section
variable {P : Program} {n : Nat}

theorem backOk_spec : ∀ {l : List Oper} {k : Nat}, backOk k l = true → ∀ (i : Nat) (o : Oper), l[i]? = some o → ∀ j ∈ depsOf o, j < k + i
 | [], _, _, i, o, h => by simp at h
 | x :: l, k, hb, i, o, h => by
  simp only [backOk, Bool.and_eq_true] at hb
  cases i with
  | zero =>
   simp at h; subst h
   intro j hj
   have := List.all_eq_true.1 hb.1 j hj
   simpa using this
  | succ i =>
   simp at h
   intro j hj
   have := backOk_spec hb.2 i o h j hj
   omega

/-- Which ones are left. -/
structure Rm (listed : Array Bool) (rem : List Nat) (n : Nat) : Prop where
 size : listed.size = n
 nodup : rem.Nodup
 mem : ∀ i, i ∈ rem ↔ i < n ∧ listed.getD i true = false

theorem Rm.erase {listed : Array Bool} {rem : List Nat} {n i : Nat} (h : Rm listed rem n) (hi : i ∈ rem) : Rm (listed.setIfInBounds i true) (rem.erase i) n := by
 refine ⟨by simp [h.size], h.nodup.erase _, fun j => ?_⟩
 rw [h.nodup.mem_erase_iff, h.mem]
 simp only [Array.getD_eq_getD_getElem?, Array.getElem?_setIfInBounds]
 by_cases e : i = j
 ·subst e
  have := ((h.mem i).1 hi).1
  rw [← h.size] at this
  simp [this]
 ·have e' : j ≠ i := fun h => e h.symm
  rw [if_neg e]
  simp [e']

theorem ready_iff {ops : Array Oper} {listed : Array Bool} {rem : List Nat} {l : List (O × List Nat)} (hr : Rm listed rem ops.size) (hb : backOk 0 ops.toList = true) {m : List O} (hm : compOs P ops ops.toList = some m) (hl : l = m.zip (ops.toList.map depsOf)) (i : Nat) :
  i ∈ Region.ready .any ops listed ↔ i ∈ rem ∧ rdy l rem i = true := by
 obtain ⟨g1, g2⟩ := compOs_get hm
 simp only [Region.ready, List.mem_filter, List.mem_range, Bool.and_eq_true, Bool.not_eq_true']
 rw [hr.mem]
 by_cases hlt : i < ops.size
 ·have ho : ops[i]? = some ops[i] := Array.getElem?_eq_getElem hlt
  obtain ⟨o', e1, e2⟩ := g2 i ops[i] (by rw [Array.getElem?_toList]; exact ho)
  have hli : l[i]? = some (o', depsOf ops[i]) := by
   rw [hl, List.getElem?_zip_eq_some]
   refine ⟨e1, ?_⟩
   simp [ho]
  have hdeps := backOk_spec hb i ops[i] (by rw [Array.getElem?_toList]; exact ho)
  simp only [rdy, hli, ho, Option.map_some, Option.getD_some]
  constructor
  ·rintro ⟨h1, h2, h3⟩
   refine ⟨⟨h1, h2⟩, ?_⟩
   rw [List.all_eq_true]
   intro j hj
   simp only [Bool.not_eq_true', List.contains_eq_mem, decide_eq_false_iff_not, hr.mem]
   have hj' := hj
   unfold depsOf at hj
   rw [List.mem_map] at hj
   obtain ⟨e, he, rfl⟩ := hj
   rw [List.mem_filter] at he
   have h4 := (Array.all_eq_true_iff_forall_mem.1 h3) e (by simpa using he.1)
   rw [he.2] at h4
   simp only [Bool.not_true, Bool.false_or] at h4
   rintro ⟨h5, h6⟩
   have hsz : e.on < listed.size := by rw [hr.size]; exact h5
   simp only [Array.getD_eq_getD_getElem?, Array.getElem?_eq_getElem hsz, Option.getD_some] at h4 h6
   rw [h4] at h6; cases h6
  ·rintro ⟨⟨h1, h2⟩, h3⟩
   refine ⟨h1, h2, ?_⟩
   rw [Array.all_eq_true_iff_forall_mem]
   intro e he
   by_cases hbd : Region.binds .any e = true
   ·rw [hbd]
    simp only [Bool.not_true, Bool.false_or]
    have hj : e.on ∈ depsOf ops[i] := List.mem_map.2 ⟨e, List.mem_filter.2 ⟨by simpa using he, hbd⟩, rfl⟩
    have h4 := List.all_eq_true.1 h3 _ hj
    simp only [Bool.not_eq_true', List.contains_eq_mem, decide_eq_false_iff_not, hr.mem] at h4
    have h5 := hdeps _ hj
    have hsz : e.on < listed.size := by rw [hr.size]; omega
    simp only [Array.getD_eq_getD_getElem?, Array.getElem?_eq_getElem hsz, Option.getD_some] at h4 ⊢
    cases hx : listed[e.on] with
    | true => rfl
    | false => exact absurd ⟨by omega, hx⟩ h4
   ·simp [hbd]
 ·constructor
  ·rintro ⟨h, _⟩; exact absurd h hlt
  ·rintro ⟨⟨h, _⟩, _⟩; exact absurd h hlt

theorem exists_min : ∀ (l : List Nat), l ≠ [] → ∃ i ∈ l, ∀ j ∈ l, i ≤ j
 | [], h => absurd rfl h
 | [x], _ => ⟨x, by simp, by simp⟩
 | x :: y :: l, _ => by
  obtain ⟨i, h1, h2⟩ := exists_min (y :: l) (by simp)
  by_cases h : x ≤ i
  ·refine ⟨x, by simp, fun j hj => ?_⟩
   rcases List.mem_cons.1 hj with rfl | hj
   ·exact Nat.le_refl _
   ·exact Nat.le_trans h (h2 j hj)
  ·refine ⟨i, by simp [h1], fun j hj => ?_⟩
   rcases List.mem_cons.1 hj with rfl | hj
   ·omega
   ·exact h2 j hj

theorem dwp_any {ops : Array Oper} {m : List O} {l : List (O × List Nat)} {Q : Exit → Act → World → Prop} {K : Fr → Hp → Prop} (hm : compOs P ops ops.toList = some m) (hl : l = m.zip (ops.toList.map depsOf)) (hb : backOk 0 ops.toList = true)
  (hk : l.all (fun o => o.1.slots n) = true) : ∀ (k fuel : Nat) (rem : List Nat) (listed : Array Bool) (a : Act) (w : World), rem.length = k → k ≤ fuel → Rm listed rem ops.size → Gd n a → dwp P l k rem (fr a) w.heap K →
   (∀ a' w', Gd n a' → Same w w' → K (fr a') w'.heap → Q .normal a' w') → wpAny P .any ops Q fuel listed a w := by
 obtain ⟨g1, g2⟩ := compOs_get hm
 intro k
 induction k with
 | zero =>
  intro fuel rem listed a w hlen hf hr hg h hn
  have hrem : rem = [] := List.length_eq_zero_iff.1 hlen
  have hready : Region.ready .any ops listed = [] := by
   rw [List.eq_nil_iff_forall_not_mem]
   intro i hi
   have := ((ready_iff hr hb hm hl i).1 hi).1
   rw [hrem] at this; cases this
  cases fuel with
  | zero => exact ⟨hready, hn a w hg (Same.refl _) h⟩
  | succ fuel => exact ⟨fun _ => hn a w hg (Same.refl _) h, fun i hi => by rw [hready] at hi; cases hi⟩
 | succ k ih =>
  intro fuel rem listed a w hlen hf hr hg h hn
  obtain ⟨fuel, rfl⟩ : ∃ f, fuel = f + 1 := ⟨fuel - 1, by omega⟩
  refine ⟨fun h0 => ?_, fun i hi => ?_⟩
  ·exfalso
   obtain ⟨i, h1, h2⟩ := exists_min rem (fun e => by rw [e] at hlen; cases hlen)
   have hi : i ∈ Region.ready .any ops listed := by
    rw [ready_iff hr hb hm hl]
    refine ⟨h1, ?_⟩
    have hlt := ((hr.mem i).1 h1).1
    have ho : ops[i]? = some ops[i] := Array.getElem?_eq_getElem hlt
    obtain ⟨o', e1, e2⟩ := g2 i ops[i] (by rw [Array.getElem?_toList]; exact ho)
    have hli : l[i]? = some (o', depsOf ops[i]) := by
     rw [hl, List.getElem?_zip_eq_some]
     exact ⟨e1, by simp [ho]⟩
    simp only [rdy, hli]
    rw [List.all_eq_true]
    intro j hj
    have := backOk_spec hb i ops[i] (by rw [Array.getElem?_toList]; exact ho) j hj
    simp only [Bool.not_eq_true', List.contains_eq_mem, decide_eq_false_iff_not]
    intro hjr
    have := h2 j hjr
    omega
   rw [h0] at hi; cases hi
  ·obtain ⟨hi1, hi2⟩ := (ready_iff hr hb hm hl i).1 hi
   have hlt := ((hr.mem i).1 hi1).1
   have ho : ops[i]? = some ops[i] := Array.getElem?_eq_getElem hlt
   obtain ⟨o', e1, e2⟩ := g2 i ops[i] (by rw [Array.getElem?_toList]; exact ho)
   have hli : l[i]? = some (o', depsOf ops[i]) := by
    rw [hl, List.getElem?_zip_eq_some]
    exact ⟨e1, by simp [ho]⟩
   have hs : o'.slots n = true := List.all_eq_true.1 hk _ (List.mem_of_getElem? hli)
   have hlen' : (rem.erase i).length = k := by rw [List.length_erase_of_mem hi1]; omega
   have := owp_op (Q := Q) (next := wpAny P .any ops Q fuel (listed.setIfInBounds i true)) e2 hs hg (h i _ hi1 hi2 hli) (fun a' w' hg' hs' hK =>
    ih fuel (rem.erase i) (listed.setIfInBounds i true) a' w' hlen' (by omega) (hr.erase hi1) hg' hK fun a'' w'' hg'' hs'' hK' => hn a'' w'' hg'' (hs'.trans hs'') hK')
   unfold wpOp
   rw [ho]
   simp only
   split
   ·rename_i hw; rw [if_pos hw] at this; exact .inl this
   ·rename_i hw; rw [if_neg hw] at this; exact this

end
end Go.WK
/-
 The translation of loaded code into the small language is sound (3): code; functions.
-/
namespace Go.WK
open Go

section
variable {P : Program} {n : Nat}

/-- 'wp_loop' with a measure that stands in the invariant. -/
theorem wp_loop_m {Q : Exit → Act → World → Prop} {c : Code} (J : Nat → Act → World → Prop)
  (round : ∀ k a w, J k a w → c.wp P (Exit.then (fun a' w' => ∃ m, m < k ∧ J m a' w') Q) a w) : ∀ k a w, J k a w → (Code.loop c).wp P Q a w := by
 intro k a w h0 b t cs
 have key : ∀ k a w, J k a w → ∃ e a' w', Q e a' w' ∧ Arrives P (lone (b.at a (.code c :: .inLoop c :: t)) cs w) b t cs e a' w' := by
  intro k
  induction k using Nat.strongRecOn with
  | _ k ih =>
   intro a w hJ
   obtain ⟨e, a₁, w₁, hq, harr⟩ := round k a w hJ b (.inLoop c :: t) cs
   cases e with
   | normal =>
    obtain ⟨m, hlt, hJ₁⟩ := hq
    obtain ⟨e₂, a₂, w₂, hq₂, harr₂⟩ := ih m hlt a₁ w₁ hJ₁
    exact ⟨e₂, a₂, w₂, hq₂, .of_steps (Steps.trans harr (.one step_inLoop)) harr₂⟩
   | exit id => exact ⟨_, a₁, w₁, hq, .pass (x := .inLoop c) rfl (fun _ _ => .inl (by simp)) harr⟩
   | goto l => exact ⟨_, a₁, w₁, hq, .pass (x := .inLoop c) rfl (fun _ _ => .inl (by simp)) harr⟩
   | ret => exact ⟨_, a₁, w₁, hq, .pass (x := .inLoop c) rfl (fun _ _ => .inl (by simp)) harr⟩
   | panic ch => exact ⟨_, a₁, w₁, hq, .pass (x := .inLoop c) rfl (fun _ _ => .inl (by simp)) harr⟩
   | outgrown => exact ⟨_, a₁, w₁, hq, .pass (x := .inLoop c) rfl (fun _ _ => .inl (by simp)) harr⟩
 obtain ⟨e, a', w', hq, harr⟩ := key k a w h0
 exact ⟨e, a', w', hq, .of_steps (.one step_loop) harr⟩

theorem post_mono {w w' : World} {Q : Ex → Fr → Hp → Prop} (hs : Same w w') {e : Exit} {a : Act} {w'' : World} (h : post w' n Q e a w'') : post w n Q e a w'' :=
 ⟨h.1, hs.trans h.2.1, h.2.2⟩

theorem comp_sound (hmx : P.follows .mixedOrders = true) : ∀ (c : Code) (c' : C), comp P c = some c' → c'.slots n = true → ∀ (Q : Ex → Fr → Hp → Prop) (a : Act) (w : World), Gd n a → cwp P c' (fr a) w.heap Q → c.wp P (post w n Q) a w := by
 intro c
 induction c with
 | skip =>
  intro c' hc hk Q a w hg h
  obtain rfl := Option.some.inj hc
  exact wp_skip ⟨hg, Same.refl _, h⟩
 | region id ops draw =>
  intro c' hc hk Q a w hg h
  cases draw
  ·simp only [comp] at hc
   cases hm : compOs P ops ops.toList with
   | none => simp [hm] at hc
   | some m =>
    simp [hm] at hc; subst hc
    refine wp_region ?_
    rw [List.range_eq_range']
    exact rwp_ops (Q := post w n Q) hm hk ops.size 0 a w (Q .normal) (by omega) hg h fun a' w' hg' hs hK => ⟨hg', hs, hK⟩
  ·simp only [comp] at hc
   cases hm : compOs P ops ops.toList with
   | none => simp [hm] at hc
   | some m =>
    simp only [hm] at hc
    split at hc
    ·rename_i hb
     simp at hc; subst hc
     refine wp_region_any hmx ?_
     have hlen := (compOs_get hm).1
     have hsz : (m.zip (ops.toList.map depsOf)).length = ops.size := by simp [hlen]
     simp only [cwp, hsz] at h
     refine dwp_any (n := n) (Q := post w n Q) (K := Q .normal) hm rfl hb hk ops.size ops.size (List.range ops.size) _ a _ (by simp) (Nat.le_refl _) ?_ hg h fun a' w' hg' hs hK => ⟨hg', ⟨hs.os, hs.tape, hs.output⟩, hK⟩
     refine ⟨by simp, List.nodup_range, fun i => ?_⟩
     simp only [List.mem_range, Array.getD_eq_getD_getElem?, Array.getElem?_replicate]
     constructor
     ·intro hi; exact ⟨hi, by simp [hi]⟩
     ·exact fun hi => hi.1
    ·simp at hc
 | seq x y ihx ihy =>
  intro c' hc hk Q a w hg h
  simp only [comp] at hc
  cases hx : comp P x with
  | none => simp [hx] at hc
  | some x' =>
   cases hy : comp P y with
   | none => simp [hx, hy] at hc
   | some y' =>
    simp [hx, hy] at hc; subst hc
    simp only [C.slots, Bool.and_eq_true] at hk
    refine wp_seq (wp_mono (ihx x' hx hk.1 _ a w hg h) ?_)
    intro e a' w' hp
    cases e with
    | normal => exact wp_mono (ihy y' hy hk.2 Q a' w' hp.1 hp.2.2) fun e a'' w'' hq => post_mono hp.2.1 hq
    | exit id => exact hp
    | ret => exact hp
    | goto l => exact hp
    | panic c => exact hp
    | outgrown => exact hp
 | cond x t e iht ihe =>
  intro c' hc hk Q a w hg h
  simp only [comp] at hc
  cases hx : comp P t with
  | none => simp [hx] at hc
  | some x' =>
   cases hy : comp P e with
   | none => simp [hx, hy] at hc
   | some y' =>
    simp [hx, hy] at hc; subst hc
    simp only [C.slots, Bool.and_eq_true] at hk
    obtain ⟨b, hb, h⟩ := onBool_iff h
    refine wp_cond_split (t := b) (by rw [eval_ev]; exact hb) (fun e => ?_) (fun e => ?_)
    ·subst e; exact iht x' hx hk.1 Q a w hg h
    ·subst e; exact ihe y' hy hk.2 Q a w hg h
 | block id x ih =>
  intro c' hc hk Q a w hg h
  simp only [comp] at hc
  cases hx : comp P x with
  | none => simp [hx] at hc
  | some x' =>
   simp [hx] at hc; subst hc
   refine wp_block (wp_mono (ih x' hx hk _ a w hg h) ?_)
   intro e a' w' hp
   cases e with
   | exit j =>
    obtain ⟨h1, h2, h3⟩ := hp
    simp only [Exit.inBlock]
    simp only [blkQ] at h3
    split
    ·rename_i e; rw [if_pos e] at h3; exact ⟨h1, h2, h3⟩
    ·rename_i e; rw [if_neg e] at h3; exact ⟨h1, h2, h3⟩
   | normal => exact hp
   | ret => exact hp
   | goto l => exact hp
   | panic c => exact hp
   | outgrown => exact hp
 | loop x ih =>
  intro c' hc hk Q a w hg h
  simp only [comp] at hc
  cases hx : comp P x with
  | none => simp [hx] at hc
  | some x' =>
   simp [hx] at hc; subst hc
   obtain ⟨J, ⟨k, h0⟩, hr⟩ := h
   refine wp_loop_m (fun k a' w' => Gd n a' ∧ Same w w' ∧ J k (fr a') w'.heap) ?_ k a w ⟨hg, Same.refl _, h0⟩
   intro k a₁ w₁ ⟨hg₁, hs₁, hJ⟩
   refine wp_mono (ih x' hx hk _ a₁ w₁ hg₁ (hr k _ _ hJ)) ?_
   intro e a' w' hp
   cases e with
   | normal => obtain ⟨p1, p2, m, p3, p4⟩ := hp; exact ⟨m, p3, p1, hs₁.trans p2, p4⟩
   | exit id => exact ⟨hp.1, hs₁.trans hp.2.1, hp.2.2⟩
   | ret => exact ⟨hp.1, hs₁.trans hp.2.1, hp.2.2⟩
   | goto l => exact ⟨hp.1, hs₁.trans hp.2.1, hp.2.2⟩
   | panic c => exact ⟨hp.1, hs₁.trans hp.2.1, hp.2.2⟩
   | outgrown => exact ⟨hp.1, hs₁.trans hp.2.1, hp.2.2⟩
 | exit id =>
  intro c' hc hk Q a w hg h
  obtain rfl := Option.some.inj hc
  exact wp_exit ⟨hg, Same.refl _, h⟩
 | ret =>
  intro c' hc hk Q a w hg h
  obtain rfl := Option.some.inj hc
  exact wp_ret ⟨hg, Same.refl _, h⟩
 | _ => intro c' hc; simp [comp] at hc

/-! Functions. -/

inductive RV where
 | t (s : Nat)
 | c1 (s : Nat)
 | cn (s n : Nat)
def rvV (f : Fr) (H : Hp) : RV → Option Value
 | .t s => some (f s)
 | .c1 s => match f s with | .pointer (some ⟨b, o, none⟩) => cell H b o | _ => none
 | .cn s n => match f s with | .pointer (some ⟨b, o, none⟩) => (rdn H b o n).map fun l => .agg l.toArray | _ => none
def rvsV (f : Fr) (H : Hp) : List RV → Option (List Value)
 | [] => some []
 | r :: l => match rvV f H r, rvsV f H l with | some v, some vs => some (v :: vs) | _, _ => none
def oneOr : List Value → Value
 | [v] => v
 | l => .tuple l.toArray
def resV (l : List RV) (f : Fr) (H : Hp) : Option Value := (rvsV f H l).map oneOr
def compRV (P : Program) : ResultVar → Option RV
 | .tmp t => some (.t t)
 | .cell a t => match aggT P t, szOf P t with
  | some true, some n => some (.cn a n)
  | some false, _ => some (.c1 a)
  | _, _ => none
def compRVs (P : Program) : List ResultVar → Option (List RV)
 | [] => some []
 | r :: l => match compRV P r, compRVs P l with | some a, some b => some (a :: b) | _, _ => none

structure FIR where
 nt : Nat
 code : C
 res : List RV
def compF (P : Program) (k : Nat) : Option FIR :=
 match P.funcs[k]? with
 | some fn => if fn.name = "runtime.NumGoroutine" then none else
  match fn.body with
  | some c => match comp P c, compRVs P fn.results.toList with
   | some c', some r => if c'.slots fn.ntmps then some ⟨fn.ntmps, c', r⟩ else none
   | _, _ => none
  | none => none
 | none => none

def argF : Nat → List Value → Fr
 | _, [] => fr0
 | k, v :: l => upd (argF (k + 1) l) k v
def retQ (r : List RV) (R : Value → Hp → Prop) (e : Ex) (f : Fr) (H : Hp) : Prop := match e with | .exit _ => False | _ => onSome (resV r f H) fun v => R v H
def fwp (P : Program) (F : FIR) (args : List Value) (H : Hp) (R : Value → Hp → Prop) : Prop := cwp P F.code (argF 0 args) H (retQ F.res R)

theorem argF_get : ∀ (l : List Value) (k i : Nat), argF k l i = if k ≤ i then l.getD (i - k) undef else undef
 | [], k, i => by simp [argF, fr0]
 | v :: l, k, i => by
  simp only [argF, upd_apply, argF_get l (k + 1) i]
  by_cases h : i = k
  ·subst h; simp
  ·have : (i == k) = false := by simpa using h
   rw [this, cond_false]
   by_cases h1 : k ≤ i
   ·rw [if_pos (by omega), if_pos h1, show i - k = (i - (k + 1)) + 1 by omega]; simp
   ·rw [if_neg (by omega), if_neg h1]

theorem run_rv {g : ResultVar → Sem Value} {a : Act} (g1 : ∀ t, g (.tmp t) = pure (a.tmps.getD t undef)) (g2 : ∀ b t, g (.cell b t) = do loadVar t (← asAddr (a.tmps.getD b undef))) {r : ResultVar} {q : RV} {w : World} {v : Value} (hq : compRV P r = some q) (h : rvV (fr a) w.heap q = some v) :
  (g r).run P w = .ok v w := by
 cases r with
 | tmp t => simp [compRV] at hq; subst hq; simp [rvV] at h; subst h; rw [g1]; rfl
 | cell b t =>
  rw [g2]
  simp only [compRV] at hq
  split at hq
  ·rename_i n ha hn
   simp at hq; subst hq
   simp only [rvV] at h
   split at h
   ·rename_i b' o' hf
    cases hr : rdn w.heap b' o' n with
    | none => simp [hr] at h
    | some l =>
     simp [hr] at h; subst h
     have hf' : a.tmps.getD b undef = .pointer (some ⟨b', o', none⟩) := hf
     simp only [hf', asAddr, Sem.run_bind, Sem.run_pure, Result.andThen_ok, run_loadVarn ha hn hr]
   ·simp at h
  ·rename_i ha
   simp at hq; subst hq
   simp only [rvV] at h
   split at h
   ·rename_i b' o' hf
    have hf' : a.tmps.getD b undef = .pointer (some ⟨b', o', none⟩) := hf
    simp only [hf', asAddr, Sem.run_bind, Sem.run_pure, Result.andThen_ok, run_loadVar1 ha h]
   ·simp at h
  ·simp at hq

theorem run_rvs {g : ResultVar → Sem Value} {a : Act} (g1 : ∀ t, g (.tmp t) = pure (a.tmps.getD t undef)) (g2 : ∀ b t, g (.cell b t) = do loadVar t (← asAddr (a.tmps.getD b undef))) {w : World} : ∀ {l : List ResultVar} {q : List RV} {vs : List Value}, compRVs P l = some q → rvsV (fr a) w.heap q = some vs →
  (l.mapM g).run P w = .ok vs w
 | [], q, vs, h, k => by simp [compRVs] at h; subst h; simp [rvsV] at k; subst k; simp
 | r :: l, q, vs, h, k => by
  unfold compRVs at h
  cases h1 : compRV P r with
  | none => simp [h1] at h
  | some x =>
   cases h2 : compRVs P l with
   | none => simp [h1, h2] at h
   | some y =>
    simp [h1, h2] at h; subst h
    simp only [rvsV] at k
    cases k1 : rvV (fr a) w.heap x with
    | none => simp [k1] at k
    | some v =>
     cases k2 : rvsV (fr a) w.heap y with
     | none => simp [k1, k2] at k
     | some z =>
      simp [k1, k2] at k; subst k
      rw [List.mapM_cons]
      simp only [Sem.run_bind, run_rv g1 g2 h1 k1, Result.andThen_ok, run_rvs g1 g2 h2 k2, Sem.run_pure]

theorem clL_of_fwp (hmx : P.follows .mixedOrders = true) {k : Nat} {F : FIR} (hF : compF P k = some F) {args : List Value} (ha : args.length ≤ F.nt) {H : Hp} {R : Value → Hp → Prop} (h : fwp P F args H R) : ClL P k args H R := by
 unfold compF at hF
 split at hF
 ·rename_i fn hf
  split at hF
  ·simp at hF
  ·rename_i hname
   split at hF
   ·rename_i c hbody
    split at hF
    ·rename_i c' r hc hr
     split at hF
     ·rename_i hs
      simp at hF; subst hF
      refine ⟨by simp [callable, hf, hbody, hname], fun w hw => ?_⟩
      subst hw
      refine calls_of_wp hf hbody ?_
      have hg : Gd fn.ntmps { tmps := args.toArray ++ Array.replicate (fn.ntmps - args.toArray.size) undef, defers := [] } := ⟨by simp at ha ⊢; omega, rfl⟩
      have hfr : fr { tmps := args.toArray ++ Array.replicate (fn.ntmps - args.toArray.size) undef, defers := [] } = argF 0 args := by
       funext i
       rw [argF_get]
       simp only [fr, Array.getD_eq_getD_getElem?, Nat.zero_le, if_true, Nat.sub_zero, List.getD_eq_getElem?_getD]
       by_cases hi : i < args.length
       ·rw [Array.getElem?_append_left (by simpa using hi)]; simp
       ·rw [Array.getElem?_append_right (by simp; omega), Array.getElem?_replicate, List.getElem?_eq_none (by omega)]
        split <;> rfl
      refine wp_mono (comp_sound hmx c c' hc hs (retQ r R) _ w hg (by rw [hfr]; exact h)) ?_
      intro e a' w' hp
      have fin : ∀ e', retQ r R e' (fr a') w'.heap → Same w w' → a'.defers = [] → a'.defers = [] ∧ ∃ v, (results fn a'.tmps).run P w' = .ok v w' ∧ (Same w w' ∧ ∃ v', Ending.returned v = .returned v' ∧ R v' w'.heap) := by
       intro e' hq hs hd
       refine ⟨hd, ?_⟩
       have hq' : onSome (resV r (fr a') w'.heap) fun v => R v w'.heap := by
        cases e' with
        | exit _ => exact hq.elim
        | normal => exact hq
        | ret => exact hq
       obtain ⟨v, hv, hR⟩ := onSome_iff hq'
       refine ⟨v, ?_, hs, v, rfl, hR⟩
       unfold resV at hv
       cases hvs : rvsV (fr a') w'.heap r with
       | none => simp [hvs] at hv
       | some vs =>
        simp [hvs] at hv; subst hv
        unfold results
        simp only [Sem.run_bind, Array.mapM_eq_mapM_toList, Sem.run_map]
        rw [run_rvs (fun _ => rfl) (fun _ _ => rfl) hr hvs]
        simp only [Result.andThen_ok, Sem.run_pure]
        congr 1
        match vs with
        | [] => rfl
        | [v] => rfl
        | _ :: _ :: _ => simp [oneOr]
      cases e with
      | normal => exact fin .normal hp.2.2 hp.2.1 hp.1.2
      | ret => exact fin .ret hp.2.2 hp.2.1 hp.1.2
      | exit id => exact hp.2.2.elim
      | goto l => exact hp.2.2.elim
      | panic c => exact hp.2.2.elim
      | outgrown => exact hp.2.2.elim
     ·simp at hF
    ·simp at hF
   ·simp at hF
 ·simp at hF

end
end Go.WK
/-
 Regions whose order is open, walked in ONE order.
-/
namespace Go.WK
open Go

theorem KeepOn.refl (S : Nat → Prop) (H : Hp) : KeepOn S H H := ⟨Nat.le_refl _, fun _ _ _ => rfl⟩
theorem KeepOn.trans {S : Nat → Prop} {A B C : Hp} (h : KeepOn S A B) (k : KeepOn S B C) : KeepOn S A C :=
 ⟨Nat.le_trans h.1 k.1, fun b hb hs => (k.2 b (Nat.lt_of_lt_of_le hb h.1) hs).trans (h.2 b hb hs)⟩
theorem KeepOn.push (S : Nat → Prop) (H : Hp) (o : Obj) : KeepOn S H (H.push o) :=
 ⟨by simp, fun b hb _ => by rw [Array.getElem?_push, if_neg (by omega)]⟩
theorem cell_lt {H : Hp} {b o : Nat} {v : Value} (h : cell H b o = some v) : b < H.size := by
 unfold cell at h
 rcases Nat.lt_or_ge b H.size with h' | h'
 ·exact h'
 ·simp [Array.getElem?_eq_none h'] at h
theorem cell_block {H H' : Hp} {b : Nat} (h : H'[b]? = H[b]?) (o : Nat) : cell H' b o = cell H b o := by unfold cell; rw [h]
theorem KeepOn.cell {S : Nat → Prop} {H H' : Hp} (h : KeepOn S H H') {b o : Nat} {v : Value} (hs : S b) (hc : cell H b o = some v) : Go.WK.cell H' b o = some v := by
 rw [cell_block (h.2 b (cell_lt hc) hs)]; exact hc
theorem KeepOn.rdn {S : Nat → Prop} {H H' : Hp} (h : KeepOn S H H') {b : Nat} (hs : S b) {n o : Nat} {l : List Value} (hc : rdn H b o n = some l) : Go.WK.rdn H' b o n = some l := by
 obtain ⟨h1, h2⟩ := rdn_spec hc
 refine rdn_of h1 fun j hj => ?_
 have h3 : l[j]? = some l[j] := List.getElem?_eq_getElem (by omega)
 rw [h3]
 exact h.cell hs (by rw [h2 j hj, h3])

def I.isLoad : I → Bool
 | .ld _ | .ldn _ _ => true
 | _ => false
def I.stab : I → Bool
 | .mv _ | .pick .. | .bld .. | .nck _ | .bin .. | .eqb .. | .eqz .. | .eqs .. | .un .. | .cvi .. | .cvs _ | .sl .. | .sls .. | .fa .. | .fld .. | .ia .. | .iaa .. | .ixs .. | .ext .. | .len _ | .slen _ | .cap _ | .mkf .. | .mx _ | .mn _ | .ld _ | .ldn _ _ => true
 | _ => false
def I.args : I → List Operand
 | .mv x => [x]
 | .pick c a b => [c, a, b]
 | .new _ _ => []
 | .box _ x => [x]
 | .bld _ ps => ps.map (·.2.2)
 | .bsl _ _ _ ps => ps.map (·.2.2)
 | .ld x => [x]
 | .ldn _ x => [x]
 | .st _ a v => [a, v]
 | .nck x => [x]
 | .bin _ x y => [x, y]
 | .eqb _ x y => [x, y]
 | .eqz _ _ x y => [x, y]
 | .eqs _ _ x y => [x, y]
 | .un _ x => [x]
 | .cvi _ x => [x]
 | .cvs x => [x]
 | .cbs x => [x]
 | .csb _ x => [x]
 | .sl _ x a b c => x :: (a.toList ++ b.toList ++ c.toList)
 | .sls x a b => x :: (a.toList ++ b.toList)
 | .fa _ x => [x]
 | .fld _ _ x => [x]
 | .ia _ x i => [x, i]
 | .iaa _ _ x i => [x, i]
 | .ixs x i => [x, i]
 | .ext _ x => [x]
 | .len x => [x]
 | .slen x => [x]
 | .cap x => [x]
 | .mlen x => [x]
 | .app _ _ _ _ x y => [x, y]
 | .apz _ _ _ _ x y => [x, y]
 | .cpy _ x y => [x, y]
 | .call _ as => as
 | .callv x as => x :: as
 | .mkf _ as => as
 | .mkm => []
 | .mup _ a b c => [a, b, c]
 | .mlk _ _ _ a b => [a, b]
 | .mks _ _ _ _ a b => [a, b]
 | .mx l => l
 | .mn l => l
 | .clr _ _ x => [x]
def tmpsOf (l : List Operand) : List Nat := l.filterMap fun | .tmp t => some t | _ => none
def O.reads : O → List Nat
 | .s _ i => tmpsOf i.args
 | .e i => tmpsOf i.args
 | .g _ t _ i => t :: tmpsOf i.args
 | .ge t _ i => t :: tmpsOf i.args
section
variable {P : Program} {S : Nat → Prop}

theorem isem_congr {i : I} {ρ ρ' : Operand → Value} {H : Hp} {κ : Value → Hp → Prop} (h : ∀ x ∈ i.args, ρ x = ρ' x) : isem P i ρ H κ = isem P i ρ' H κ := by
 have om : ∀ (x : Option Operand), (∀ y ∈ x.toList, ρ y = ρ' y) → x.map ρ = x.map ρ' := by
  intro x hx; cases x with | none => rfl | some y => simp [hx y (by simp)]
 cases i
 case bld z ps =>
  have : (ps.map fun p => (p.1, p.2.1, ρ p.2.2)) = ps.map fun p => (p.1, p.2.1, ρ' p.2.2) := List.map_congr_left fun p hp => by rw [h p.2.2 (List.mem_map.2 ⟨p, hp, rfl⟩)]
  simp only [isem, this]
 case bsl t len z ps =>
  have : (ps.map fun p => (p.1, p.2.1, ρ p.2.2)) = ps.map fun p => (p.1, p.2.1, ρ' p.2.2) := List.map_congr_left fun p hp => by rw [h p.2.2 (List.mem_map.2 ⟨p, hp, rfl⟩)]
  simp only [isem, this]
 case sl k x a b c =>
  have e1 := h x (by simp [I.args])
  have e2 := om a (fun y hy => h y (by simp only [I.args, List.mem_cons, List.mem_append]; exact .inr (.inl (.inl hy))))
  have e3 := om b (fun y hy => h y (by simp only [I.args, List.mem_cons, List.mem_append]; exact .inr (.inl (.inr hy))))
  have e4 := om c (fun y hy => h y (by simp only [I.args, List.mem_cons, List.mem_append]; exact .inr (.inr hy)))
  simp only [isem, e1, e2, e3, e4]
 case sls x a b =>
  have e1 := h x (by simp [I.args])
  have e2 := om a (fun y hy => h y (by simp only [I.args, List.mem_cons, List.mem_append]; exact .inr (.inl hy)))
  have e3 := om b (fun y hy => h y (by simp only [I.args, List.mem_cons, List.mem_append]; exact .inr (.inr hy)))
  simp only [isem, e1, e2, e3]
 case call f as =>
  have e : as.map ρ = as.map ρ' := List.map_congr_left fun y hy => h y hy
  simp only [isem, e]
 case callv x as =>
  have e1 := h x (by simp [I.args])
  have e2 : as.map ρ = as.map ρ' := List.map_congr_left fun y hy => h y (by simp [I.args, hy])
  simp only [isem, e1, e2]
 case mkf f as =>
  have e : as.map ρ = as.map ρ' := List.map_congr_left fun y hy => h y hy
  simp only [isem, e]
 case mx l =>
  have e : l.map ρ = l.map ρ' := List.map_congr_left fun y hy => h y hy
  simp only [isem, e]
 case mn l =>
  have e : l.map ρ = l.map ρ' := List.map_congr_left fun y hy => h y hy
  simp only [isem, e]
 all_goals simp only [I.args, List.mem_cons, List.not_mem_nil, or_false, forall_eq_or_imp, forall_eq] at h
 all_goals simp only [isem, h]

theorem isem_of_S {i : I} {ρ : Operand → Value} {H : Hp} {κ : Value → Hp → Prop} (h : isemS P S i ρ H κ) : isem P i ρ H κ := by
 unfold isemS at h
 split at h
 ·obtain ⟨b, o, e, _, h⟩ := onPtr_iff h; simp only [isem, e]; exact h
 ·obtain ⟨b, o, e, _, h⟩ := onPtr_iff h; simp only [isem, e]; exact h
 ·exact h
theorem owp_of_S {o : O} {f : Fr} {H : Hp} {K : Fr → Hp → Prop} (h : owpS P S o f H K) : owp P o f H K := by
 cases o <;> simp only [owpS, owp] at h ⊢
 ·exact isem_of_S h
 ·exact isem_of_S h
 ·unfold onG at h ⊢
  split
  ·split
   ·rename_i hh; simp only [*, if_true] at h; exact isem_of_S h
   ·rename_i hh; simp only [*, if_false] at h; exact h
  ·rename_i hv
   split at h
   ·rename_i c hc; exact absurd hc (hv c)
   ·exact h
 ·unfold onG at h ⊢
  split
  ·split
   ·rename_i hh; simp only [*, if_true] at h; exact isem_of_S h
   ·rename_i hh; simp only [*, if_false] at h; exact h
  ·rename_i hv
   split at h
   ·rename_i c hc; exact absurd hc (hv c)
   ·exact h

/-- A stable operation yields one value, whatever is done beside it. -/
theorem isemS_stab {i : I} (hi : i.stab = true) {ρ : Operand → Value} {H : Hp} {κ : Value → Hp → Prop} (h : isemS P S i ρ H κ) :
  ∃ v, κ v H ∧ ∀ H', (i.isLoad = true → KeepOn S H H') → ∀ κ' : Value → Hp → Prop, κ' v H' → isem P i ρ H' κ' := by
 cases i <;> simp only [I.stab, Bool.false_eq_true] at hi <;> simp only [isemS] at h
 case ld x =>
  obtain ⟨b, o, e, hs, h⟩ := onPtr_iff h
  obtain ⟨v, hv, h⟩ := onSome_iff h
  exact ⟨v, h, fun H' hk κ' hk' => by simp only [isem, e, onPtr, (hk rfl).cell hs hv, onSome]; exact hk'⟩
 case ldn n x =>
  obtain ⟨b, o, e, hs, h⟩ := onPtr_iff h
  obtain ⟨l, hl, h⟩ := onSome_iff h
  exact ⟨_, h, fun H' hk κ' hk' => by simp only [isem, e, onPtr, (hk rfl).rdn hs hl, onSome]; exact hk'⟩
 all_goals simp only [isem] at h ⊢
 case mv => exact ⟨_, h, fun _ _ _ h => h⟩
 case pick => obtain ⟨b, e, h⟩ := onBool_iff h; exact ⟨_, h, fun _ _ _ h => by rw [e]; exact h⟩
 case bld => obtain ⟨b, e, h⟩ := onSome_iff h; exact ⟨_, h, fun _ _ _ h => by rw [e]; exact h⟩
 case nck => obtain ⟨b, o, e, h⟩ := onPtr_iff h; exact ⟨_, h, fun _ _ _ h => by rw [e]; exact h⟩
 case bin => obtain ⟨b, e, h⟩ := onSome_iff h; exact ⟨_, h, fun _ _ _ h => by rw [e]; exact h⟩
 case eqb =>
  obtain ⟨b, e, h⟩ := onBool_iff h
  obtain ⟨c, e', h⟩ := onBool_iff h
  exact ⟨_, h, fun _ _ _ h => by rw [e, e']; exact h⟩
 case eqz => obtain ⟨b, e, h⟩ := onSome_iff h; exact ⟨_, h, fun _ _ _ h => by rw [e]; exact h⟩
 case eqs => obtain ⟨b, e, h⟩ := onSome_iff h; exact ⟨_, h, fun _ _ _ h => by rw [e]; exact h⟩
 case un => obtain ⟨b, e, h⟩ := onSome_iff h; exact ⟨_, h, fun _ _ _ h => by rw [e]; exact h⟩
 case cvi => obtain ⟨b, o, e, h⟩ := onInt_iff h; exact ⟨_, h, fun _ _ _ h => by rw [e]; exact h⟩
 case cvs => obtain ⟨s, e, h⟩ := onStr_iff h; exact ⟨_, h, fun _ _ _ h => by rw [e]; exact h⟩
 case sl =>
  obtain ⟨a, n, c, e, h⟩ := onSlice_iff h
  obtain ⟨r, e', h1, h⟩ := onSome_iff h
  exact ⟨_, h, fun _ _ _ h => by rw [e]; simp only [onSlice, e', onSome]; exact ⟨h1, h⟩⟩
 case sls =>
  obtain ⟨s, e, h⟩ := onStr_iff h
  obtain ⟨r, e', h⟩ := onSome_iff h
  exact ⟨_, h, fun _ _ _ h => by rw [e]; simp only [onStr, e', onSome]; exact h⟩
 case fa => obtain ⟨b, o, e, h⟩ := onPtr_iff h; exact ⟨_, h, fun _ _ _ h => by rw [e]; exact h⟩
 case fld n off x =>
  cases n <;> simp only at h ⊢
  ·split at h
   ·obtain ⟨v, e, h⟩ := onSome_iff h; exact ⟨_, h, fun _ _ _ h => by rw [e]; exact h⟩
   ·exact h.elim
  ·split at h
   ·exact ⟨_, h, fun _ _ _ h => h⟩
   ·exact h.elim
 case ia =>
  obtain ⟨a, n, c, e, h⟩ := onSlice_iff h
  obtain ⟨q, j, e', h1, h⟩ := onInt_iff h
  obtain ⟨p, e'', h2, h⟩ := onSome_iff h
  exact ⟨_, h, fun _ _ _ h => by rw [e, e']; simp only [onSlice, onInt, e'', onSome]; exact ⟨h1, h2, h⟩⟩
 case iaa =>
  obtain ⟨b, o, e, h⟩ := onPtr_iff h
  obtain ⟨q, j, e', h1, h⟩ := onInt_iff h
  exact ⟨_, h, fun _ _ _ h => by rw [e, e']; exact ⟨h1, h⟩⟩
 case ixs =>
  obtain ⟨s, e, h⟩ := onStr_iff h
  obtain ⟨q, j, e', h1, h⟩ := onInt_iff h
  obtain ⟨p, e'', h⟩ := onSome_iff h
  exact ⟨_, h, fun _ _ _ h => by rw [e, e']; simp only [onStr, onInt, e'', onSome]; exact ⟨h1, h⟩⟩
 case ext =>
  split at h
  ·obtain ⟨v, e, h⟩ := onSome_iff h; exact ⟨_, h, fun _ _ _ h => by rw [e]; exact h⟩
  ·exact h.elim
 case len => obtain ⟨a, n, c, e, h⟩ := onSlice_iff h; exact ⟨_, h, fun _ _ _ h => by rw [e]; exact h⟩
 case slen => obtain ⟨s, e, h⟩ := onStr_iff h; exact ⟨_, h, fun _ _ _ h => by rw [e]; exact h⟩
 case cap => obtain ⟨a, n, c, e, h⟩ := onSlice_iff h; exact ⟨_, h, fun _ _ _ h => by rw [e]; exact h⟩
 case mkf => exact ⟨_, h, fun _ _ _ h => h⟩
 case mx => obtain ⟨v, e, h⟩ := onSome_iff h; exact ⟨_, h, fun _ _ _ h => by rw [e]; exact h⟩
 case mn => obtain ⟨v, e, h⟩ := onSome_iff h; exact ⟨_, h, fun _ _ _ h => by rw [e]; exact h⟩

theorem owpS_stab {o : O} (hi : o.op.stab = true) {f : Fr} {H : Hp} {K : Fr → Hp → Prop} (h : owpS P S o f H K) :
  ∃ v, K (updO f o.dst v) H ∧ ∀ H', (o.op.isLoad = true → KeepOn S H H') → ∀ K' : Fr → Hp → Prop, K' (updO f o.dst v) H' → owp P o f H' K' := by
 cases o <;> simp only [owpS, owp, O.op, O.dst, updO] at h hi ⊢
 ·obtain ⟨v, h1, h2⟩ := isemS_stab hi h
  exact ⟨v, h1, fun H' hk K' hK => h2 H' hk _ hK⟩
 ·obtain ⟨v, h1, h2⟩ := isemS_stab hi h
  exact ⟨v, h1, fun H' hk K' hK => h2 H' hk _ hK⟩
 ·unfold onG at h ⊢
  split at h
  ·rename_i c hc
   split at h
   ·rename_i e
    obtain ⟨v, h1, h2⟩ := isemS_stab hi h
    exact ⟨v, h1, fun H' hk K' hK => by rw [if_pos e]; exact h2 H' hk _ hK⟩
   ·rename_i e
    exact ⟨undef, h, fun H' hk K' hK => by rw [if_neg e]; exact hK⟩
  ·rename_i hv
   exact ⟨undef, h, fun H' hk K' hK => hK⟩
 ·unfold onG at h ⊢
  split at h
  ·rename_i c hc
   split at h
   ·rename_i e
    obtain ⟨v, h1, h2⟩ := isemS_stab hi h
    exact ⟨v, h1, fun H' hk K' hK => by rw [if_pos e]; exact h2 H' hk _ hK⟩
   ·rename_i e
    exact ⟨undef, h, fun H' hk K' hK => by rw [if_neg e]; exact hK⟩
  ·rename_i hv
   exact ⟨undef, h, fun H' hk K' hK => hK⟩

theorem ev_agree {f g : Fr} {l : List Operand} (h : ∀ t ∈ tmpsOf l, f t = g t) : ∀ x ∈ l, ev f x = ev g x := by
 intro x hx
 cases x with
 | tmp t => exact h t (List.mem_filterMap.2 ⟨_, hx, rfl⟩)
 | _ => rfl
/-- An operation hangs on the slots that it reads alone. -/
theorem owp_agree {o : O} {f g : Fr} {H : Hp} {K K' : Fr → Hp → Prop} (h : ∀ t ∈ o.reads, f t = g t) (hK : ∀ u H', K (updO f o.dst u) H' → K' (updO g o.dst u) H') (ho : owp P o f H K) : owp P o g H K' := by
 cases o <;> simp only [owp, O.reads, O.dst, updO] at h hK ho ⊢
 ·rw [isem_congr (ev_agree h)] at ho
  exact isem_mono (fun v H' => hK v H') ho
 ·rw [isem_congr (ev_agree h)] at ho
  exact isem_mono (fun v H' => hK v H') ho
 ·have h1 := h _ (List.mem_cons_self ..)
  rw [← h1]
  unfold onG at ho ⊢
  split
  ·split
   ·rename_i e1 e2 e3
    simp only [e2] at ho
    rw [if_pos e3] at ho
    rw [isem_congr (ev_agree fun t ht => h t (List.mem_cons_of_mem _ ht))] at ho
    exact isem_mono (fun v H' => hK v H') ho
   ·rename_i e1 e2 e3
    simp only [e2] at ho
    rw [if_neg e3] at ho
    exact hK _ _ ho
  ·rename_i hv
   split at ho
   ·rename_i c hc; exact absurd hc (hv c)
   ·exact hK _ _ ho
 ·have h1 := h _ (List.mem_cons_self ..)
  rw [← h1]
  unfold onG at ho ⊢
  split
  ·split
   ·rename_i e1 e2 e3
    simp only [e2] at ho
    rw [if_pos e3] at ho
    rw [isem_congr (ev_agree fun t ht => h t (List.mem_cons_of_mem _ ht))] at ho
    exact isem_mono (fun v H' => hK v H') ho
   ·rename_i e1 e2 e3
    simp only [e2] at ho
    rw [if_neg e3] at ho
    exact hK undef _ ho
  ·rename_i hv
   split at ho
   ·rename_i c hc; exact absurd hc (hv c)
   ·exact hK undef _ ho

end
end Go.WK
/-
 Regions whose order is open, walked in ONE order (2): the order is checked by a reckoning.
-/
namespace Go.WK
open Go

abbrev DL := List (O × List Nat)

/-- What is laid on operation j: if a load was taken ahead of it that it does not wait for, then the blocks of S stay. -/
def need (l : DL) (prev : List Nat) (j : Nat) : Bool := match l[j]? with
 | some o => !prev.all fun i => o.2.contains i
 | none => false
/-- The walk in the order 'ord'; 'prev': the loads that were taken ahead of their neighbours. -/
def swp (P : Program) (S : Nat → Prop) (l : DL) : List Nat → List Nat → Fr → Hp → (Fr → Hp → Prop) → Prop
 | _, [], f, H, K => K f H
 | prev, i :: ord, f, H, K => match l[i]? with
  | some o => match o.1.op.stab with
   | true => owpS P S o.1 f H fun f' H' => swp P S l (bif o.1.op.isLoad then i :: prev else prev) ord f' H' K
   | false => owp P o.1 f H fun f' H' => (need l prev i = true → KeepOn S H H') ∧ swp P S l prev ord f' H' K
  | none => False
def disj (a b : List Nat) : Bool := a.all fun x => !b.contains x
def apart (o q : O) : Bool := disj o.dst.toList (q.reads ++ q.dst.toList) && disj q.dst.toList o.reads
/-- Is the order one that serves? -/
def ordOk (l : DL) : List Nat → Bool
 | [] => true
 | i :: ord => (match l[i]? with
  | some o => rdy l (i :: ord) i && (match o.1.op.stab with
   | true => ord.all fun j => match l[j]? with | some q => q.2.contains i || apart o.1 q.1 | none => false
   | false => ord.all fun j => !rdy l (i :: ord) j)
  | none => false) && ordOk l ord

section
variable {P : Program} {S : Nat → Prop}

/-- In whatever order; each operation that is marked keeps the blocks of S. -/
def dwpO (P : Program) (Ob : Nat → Hp → Hp → Prop) (l : DL) : Nat → List Nat → Fr → Hp → (Fr → Hp → Prop) → Prop
 | 0, _, f, H, K => K f H
 | n + 1, rem, f, H, K => ∀ i o, i ∈ rem → rdy l rem i = true → l[i]? = some o → owp P o.1 f H fun f' H' => Ob i H H' ∧ dwpO P Ob l n (rem.erase i) f' H' K

theorem owp_mono {o : O} {f : Fr} {H : Hp} {K K' : Fr → Hp → Prop} (h : ∀ f H, K f H → K' f H) (ho : owp P o f H K) : owp P o f H K' :=
 owp_agree (fun _ _ => rfl) (fun _ _ => h _ _) ho

theorem dwp_of_O {Ob : Nat → Hp → Hp → Prop} {l : DL} : ∀ {n : Nat} {rem : List Nat} {f : Fr} {H : Hp} {K : Fr → Hp → Prop}, dwpO P Ob l n rem f H K → dwp P l n rem f H K
 | 0, _, _, _, _, h => h
 | n + 1, rem, f, H, K, h => fun i o hi hr ho => owp_mono (fun _ _ h => dwp_of_O h.2) (h i o hi hr ho)
theorem dwpO_mono {Ob Ob' : Nat → Hp → Hp → Prop} {l : DL} : ∀ {n : Nat} {rem : List Nat} {f : Fr} {H : Hp} {K : Fr → Hp → Prop}, (∀ i ∈ rem, ∀ H H', Ob i H H' → Ob' i H H') → dwpO P Ob l n rem f H K → dwpO P Ob' l n rem f H K
 | 0, _, _, _, _, _, h => h
 | n + 1, rem, f, H, K, hm, h => fun i o hi hr ho => owp_mono (fun _ _ h => ⟨hm i hi _ _ h.1, dwpO_mono (fun j hj => hm j (List.mem_of_mem_erase hj)) h.2⟩) (h i o hi hr ho)
theorem rdy_perm {l : DL} {r r' : List Nat} (h : ∀ x, x ∈ r ↔ x ∈ r') (i : Nat) : rdy l r i = rdy l r' i := by
 unfold rdy
 cases l[i]? with
 | none => rfl
 | some o =>
  simp only
  congr 1
  funext j
  simp only [List.contains_eq_mem, h j]
theorem dwpO_perm {Ob : Nat → Hp → Hp → Prop} {l : DL} : ∀ {n : Nat} {r r' : List Nat} {f : Fr} {H : Hp} {K : Fr → Hp → Prop}, r.Perm r' → dwpO P Ob l n r f H K → dwpO P Ob l n r' f H K
 | 0, _, _, _, _, _, _, h => h
 | n + 1, r, r', f, H, K, hp, h => fun i o hi hr ho => owp_mono (fun _ _ h => ⟨h.1, dwpO_perm (hp.erase i) h.2⟩) (h i o (hp.mem_iff.2 hi) (by rw [rdy_perm (fun x => hp.mem_iff)]; exact hr) ho)

theorem updO_apart {o q : O} (h : apart o q = true) (f : Fr) (u v : Value) : updO (updO f o.dst v) q.dst u = updO (updO f q.dst u) o.dst v ∧ (∀ t ∈ q.reads, updO f o.dst v t = f t) ∧ (∀ t ∈ o.reads, updO f q.dst u t = f t) := by
 simp only [apart, disj, Bool.and_eq_true] at h
 obtain ⟨h1, h2⟩ := h
 have g1 : ∀ d, o.dst = some d → d ∉ q.reads ∧ q.dst ≠ some d := by
  intro d hd
  have := List.all_eq_true.1 h1 d (by simp [hd])
  simp only [Bool.not_eq_true', List.contains_eq_mem, decide_eq_false_iff_not, List.mem_append, not_or] at this
  exact ⟨this.1, fun e => this.2 (by simp [e])⟩
 have g2 : ∀ d, q.dst = some d → d ∉ o.reads := by
  intro d hd
  have := List.all_eq_true.1 h2 d (by simp [hd])
  simpa using this
 refine ⟨?_, ?_, ?_⟩
 ·cases ho : o.dst with
  | none => rfl
  | some d =>
   cases hq : q.dst with
   | none => rfl
   | some e =>
    have hne : e ≠ d := fun h => (g1 d ho).2 (by rw [hq, h])
    funext t
    simp only [updO, upd_apply]
    by_cases h1 : t = e
    ·subst h1
     have : (t == d) = false := by simpa using hne
     simp [this]
    ·have : (t == e) = false := by simpa using h1
     simp [this]
 ·intro t ht
  cases ho : o.dst with
  | none => rfl
  | some d =>
   have hne : t ≠ d := fun h => (g1 d ho).1 (h ▸ ht)
   have : (t == d) = false := by simpa using hne
   simp [updO, upd_apply, this]
 ·intro t ht
  cases hq : q.dst with
  | none => rfl
  | some e =>
   have hne : t ≠ e := fun h => g2 e hq (h ▸ ht)
   have : (t == e) = false := by simpa using hne
   simp [updO, upd_apply, this]

theorem updO_val {d : Option Nat} {f : Fr} {u v : Value} (h : updO f d u = updO f d v) (g : Fr) : updO g d u = updO g d v := by
 cases d with
 | none => rfl
 | some d =>
  have := congrFun h d
  simp [updO, upd_apply] at this
  rw [this]
/-- An operation that yields its value whatever the others do may be taken first. -/
theorem dwpO_take {Ob : Nat → Hp → Hp → Prop} {l : DL} {i : Nat} {o : O × List Nat} (ho : l[i]? = some o) {v : Value} : ∀ {n : Nat} {rem : List Nat} {f : Fr} {H : Hp} {K : Fr → Hp → Prop}, rem.length = n + 1 → rem.Nodup → i ∈ rem →
  (∀ H H', Ob i H H' → True) → (∀ H, Ob i H H) →
  (∀ j q, j ∈ rem → j ≠ i → l[j]? = some q → q.2.contains i = true ∨ apart o.1 q.1 = true) →
  (∀ j q, j ∈ rem → j ≠ i → l[j]? = some q → q.2.contains i = false → o.1.op.isLoad = true → ∀ H H', Ob j H H' → KeepOn S H H') →
  (∀ H', (o.1.op.isLoad = true → KeepOn S H H') → ∀ K' : Fr → Hp → Prop, K' (updO f o.1.dst v) H' → owp P o.1 f H' K') →
  dwpO P Ob l n (rem.erase i) (updO f o.1.dst v) H K → dwpO P Ob l (n + 1) rem f H K
 | n, rem, f, H, K, hlen, hnd, hi, hO0, hO, hap, hkp, hy, h => by
  intro j q hj hr hq
  by_cases hji : j = i
  ·subst hji
   rw [ho] at hq
   obtain rfl := Option.some.inj hq
   exact hy H (fun _ => KeepOn.refl _ _) _ ⟨hO H, h⟩
  ·have hji' : j ∈ rem.erase i := (hnd.mem_erase_iff).2 ⟨hji, hj⟩
   have hnw : q.2.contains i = false := by
    simp only [rdy, hq] at hr
    cases hc : q.2.contains i with
    | false => rfl
    | true =>
     have := List.all_eq_true.1 hr i (by simpa using hc)
     simp [hi] at this
   have hA : apart o.1 q.1 = true := by
    rcases hap j q hj hji hq with h | h
    ·rw [hnw] at h; cases h
    ·exact h
   obtain ⟨n, rfl⟩ : ∃ m, n = m + 1 := by
    refine ⟨n - 1, ?_⟩
    have := List.length_pos_of_mem hji'
    rw [List.length_erase_of_mem hi, hlen] at this
    omega
   have hr' : rdy l (rem.erase i) j = true := by
    simp only [rdy, hq] at hr ⊢
    rw [List.all_eq_true] at hr ⊢
    intro x hx
    have := hr x hx
    simp only [Bool.not_eq_true', List.contains_eq_mem, decide_eq_false_iff_not] at this ⊢
    exact fun hm => this (List.mem_of_mem_erase hm)
   have h1 := h j q hji' hr' hq
   refine owp_agree (g := f) (fun t ht => (updO_apart hA f undef v).2.1 t ht) (fun u H' hK => ?_) h1
   refine ⟨hK.1, ?_⟩
   have hcomm := (updO_apart hA f u v).1
   have hK2 := hK.2
   rw [hcomm] at hK2
   have hlen' : (rem.erase j).length = n + 1 := by rw [List.length_erase_of_mem hj, hlen]; omega
   have hik : i ∈ rem.erase j := (hnd.mem_erase_iff).2 ⟨fun e => hji e.symm, hi⟩
   refine dwpO_take ho (v := v) hlen' (hnd.erase j) hik hO0 hO (fun k r hk => hap k r (List.mem_of_mem_erase hk)) (fun k r hk => hkp k r (List.mem_of_mem_erase hk)) ?_ ?_
   ·intro H'' hk K' hK'
    refine owp_agree (f := f) (g := updO f q.1.dst u) (fun t ht => ((updO_apart hA f u v).2.2 t ht).symm) (fun u' G hG => ?_) (hy H'' (fun hl => (hkp j q hj hji hq hnw hl H H' hK.1).trans (hk hl)) (fun g G => g = updO f o.1.dst v ∧ G = H'') ⟨rfl, rfl⟩)
    obtain ⟨e1, rfl⟩ := hG
    rw [updO_val e1 (updO f q.1.dst u)]
    exact hK'
   ·rw [List.erase_comm]; exact hK2
 termination_by n => n

theorem ordOk_dwp {l : DL} {K : Fr → Hp → Prop} : ∀ (ord prev : List Nat) (f : Fr) (H : Hp), ord.Nodup → ordOk l ord = true → swp P S l prev ord f H K →
  dwpO P (fun j H H' => j ∈ ord → need l prev j = true → KeepOn S H H') l ord.length ord f H K := by
 intro ord
 induction ord with
 | nil => intro prev f H _ _ h; exact h
 | cons i ord ih =>
  intro prev f H hnd hok h
  have hnd' := hnd
  rw [List.nodup_cons] at hnd'
  simp only [ordOk, Bool.and_eq_true] at hok
  obtain ⟨hok1, hok2⟩ := hok
  cases hl : l[i]? with
  | none => simp [hl] at hok1
  | some o =>
   simp only [hl, Bool.and_eq_true] at hok1
   simp only [swp, hl] at h
   obtain ⟨hr, hst⟩ := hok1
   have her : (i :: ord).erase i = ord := by simp
   cases hs : o.1.op.stab with
   | true =>
    simp only [hs] at hst h
    obtain ⟨v, h1, h2⟩ := owpS_stab hs h
    have h3 := ih _ _ _ hnd'.2 hok2 h1
    generalize hp : (bif o.1.op.isLoad then i :: prev else prev) = prev' at h3
    have hneed : ∀ j, need l prev j = true → need l prev' j = true := by
     intro j hj
     subst hp
     cases o.1.op.isLoad with
     | false => exact hj
     | true =>
      unfold need at hj ⊢
      cases hq : l[j]? with
      | none => rw [hq] at hj; exact hj
      | some q =>
       rw [hq] at hj
       simp only [Bool.not_eq_true', cond_true, List.all_cons, Bool.and_eq_false_iff] at hj ⊢
       exact .inr hj
    refine dwpO_mono (Ob := fun j H H' => (j = i → KeepOn S H H') ∧ (j ∈ ord → need l prev' j = true → KeepOn S H H')) ?_ ?_
    ·intro j hj H1 H2 hob _ hn
     rcases List.mem_cons.1 hj with e | hj'
     ·exact hob.1 e
     ·exact hob.2 hj' (hneed j hn)
    refine dwpO_take (S := S) (i := i) hl (v := v) (rem := i :: ord) (by simp) hnd (by simp) (fun _ _ _ => trivial) (fun H => ⟨fun _ => KeepOn.refl _ _, fun _ _ => KeepOn.refl _ _⟩) ?_ ?_ h2 ?_
    ·intro j q hj hji hq
     have hj' : j ∈ ord := by
      rcases List.mem_cons.1 hj with h | h
      ·exact absurd h hji
      ·exact h
     have := List.all_eq_true.1 hst j hj'
     simp only [hq, Bool.or_eq_true] at this
     exact this
    ·intro j q hj hji hq hnw hld H1 H2 hob
     have hj' : j ∈ ord := by
      rcases List.mem_cons.1 hj with h | h
      ·exact absurd h hji
      ·exact h
     refine hob.2 hj' ?_
     subst hp
     rw [hld]
     simp only [need, hq, cond_true, List.all_cons, hnw, Bool.false_and, Bool.not_false]
    ·rw [her]
     exact dwpO_mono (fun j hj H1 H2 hob => ⟨fun e => absurd (e ▸ hj) hnd'.1, fun hj' hn => hob hj' hn⟩) h3
   | false =>
    simp only [hs] at hst h
    intro j q hj hjr hq
    have hji : j = i := by
     rcases List.mem_cons.1 hj with h | h
     ·exact h
     ·have := List.all_eq_true.1 hst j h
      rw [hjr] at this; cases this
    subst hji
    rw [hl] at hq
    obtain rfl := Option.some.inj hq
    refine owp_mono (fun f' H' hh => ?_) h
    rw [her]
    refine ⟨fun _ hn => hh.1 hn, ?_⟩
    exact dwpO_mono (fun j hj H1 H2 hob _ hn => hob hj hn) (ih prev _ _ hnd'.2 hok2 hh.2)
/-- THE RULE: a region whose order is open is walked in one order, if the reckoning says that it serves. -/
theorem drw_of {l : DL} (S : Nat → Prop) (ord : List Nat) {f : Fr} {H : Hp} {Q : Ex → Fr → Hp → Prop} (hlen : ord.length = l.length) (hperm : (List.range l.length).isPerm ord = true) (hok : ordOk l ord = true) (h : swp P S l [] ord f H (Q .normal)) : cwp P (.drw l) f H Q := by
 have hp : (List.range l.length).Perm ord := List.isPerm_iff.1 hperm
 have hnd : ord.Nodup := hp.nodup_iff.1 List.nodup_range
 have := ordOk_dwp ord [] f H hnd hok h
 rw [hlen] at this
 exact dwp_of_O (dwpO_perm hp.symm this)
end
end Go.WK
/-
 Regions in which blocks are made, walked in one order: sound.
-/
namespace Go.WK
open Go

/-- The same, by places in the region. -/
inductive KI where
 | st
 | al
 | ac (pre : List Nat)
 | fi (need : Bool)
def KI.isAl : KI → Bool | .al => true | _ => false
def KI.isAc : KI → Bool | .ac _ => true | _ => false
def O.mkAl : O → Bool
 | .s _ (.new ..) => true
 | .s _ (.box ..) => true
 | .s _ (.bsl ..) => true
 | _ => false
def toK (l : DL) : KI → Kd
 | .st => .st
 | .al => .al
 | .ac pre => .ac (pre.filterMap fun j => (l[j]?).map (·.1))
 | .fi b => .fi b
def itemsT (l : DL) (T : List (Nat × KI)) : List (Kd × O) := T.filterMap fun p => (l[p.1]?).map fun q => (toK l p.2, q.1)
def readsOf (l : DL) (j : Nat) : List Nat := match l[j]? with | some q => q.1.reads | none => []
def dstOf' (l : DL) (j : Nat) : List Nat := match l[j]? with | some q => q.1.dst.toList | none => []
def needG (l : DL) (j : Nat) : Bool := match l[j]? with
 | some q => !(List.range l.length).all fun i => match l[i]? with | some r => !r.1.op.isLoad || q.2.contains i | none => true
 | none => false
def nonal (T : List (Nat × KI)) : List Nat := (T.filter fun p => !p.2.isAl).map (·.1)
def headOk (l : DL) (i : Nat) (k : KI) (T : List (Nat × KI)) : Bool :=
 match l[i]? with
 | none => false
 | some q =>
  T.all (fun p => match l[p.1]? with | some r => r.2.contains i || apart q.1 r.1 | none => false) &&
  match k with
  | .st => q.1.op.stab
  | .al => q.1.mkAl && T.all fun p => p.2.isAl || !rdy l (i :: nonal T) p.1
  | .ac pre => (T.all fun p => !rdy l (i :: nonal T) p.1 || (p.2.isAl && pre.contains p.1)) && pre.all fun x => T.all fun p => !p.2.isAl || disj (dstOf' l p.1) (readsOf l x)
  | .fi need => (T.all fun p => !p.2.isAl && !p.2.isAc && !rdy l (i :: nonal T) p.1) && (need || !needG l i)
def okT (l : DL) : List (Nat × KI) → Bool
 | [] => true
 | (i, k) :: T => headOk l i k T && okT l T

section
variable {P : Program} {S : Nat → Prop} {n0 : Nat}

theorem isemS_stab' {i : I} (hi : i.stab = true) {ρ : Operand → Value} {H : Hp} {κ : Value → Hp → Prop} (h : isemS P S i ρ H κ) :
  ∃ v, κ v H ∧ ∀ H', (i.isLoad = true → KeepOn S H H') → ∀ κ' : Value → Hp → Prop, κ' v H' → isemS P S i ρ H' κ' := by
 by_cases hl : i.isLoad = true
 ·cases i <;> simp only [I.isLoad, Bool.false_eq_true] at hl
  case ld x =>
   obtain ⟨b, o, e, hs, h⟩ := onPtr_iff h
   obtain ⟨v, hv, h⟩ := onSome_iff h
   exact ⟨v, h, fun H' hk κ' hk' => by simp only [isemS, e, onPtr, (hk rfl).cell hs hv, onSome]; exact ⟨hs, hk'⟩⟩
  case ldn n x =>
   obtain ⟨b, o, e, hs, h⟩ := onPtr_iff h
   obtain ⟨l, hl, h⟩ := onSome_iff h
   exact ⟨_, h, fun H' hk κ' hk' => by simp only [isemS, e, onPtr, (hk rfl).rdn hs hl, onSome]; exact ⟨hs, hk'⟩⟩
 ·obtain ⟨v, h1, h2⟩ := isemS_stab hi h
  refine ⟨v, h1, fun H' hk κ' hk' => ?_⟩
  have h3 := h2 H' hk κ' hk'
  cases i <;> first | exact h3 | exact absurd rfl hl
theorem owpS_stab' {o : O} (hi : o.op.stab = true) {f : Fr} {H : Hp} {K : Fr → Hp → Prop} (h : owpS P S o f H K) :
  ∃ v, K (updO f o.dst v) H ∧ ∀ H', (o.op.isLoad = true → KeepOn S H H') → ∀ K' : Fr → Hp → Prop, K' (updO f o.dst v) H' → owpS P S o f H' K' := by
 cases o <;> simp only [owpS, O.op, O.dst, updO] at h hi ⊢
 ·obtain ⟨v, h1, h2⟩ := isemS_stab' hi h
  exact ⟨v, h1, fun H' hk K' hK => h2 H' hk _ hK⟩
 ·obtain ⟨v, h1, h2⟩ := isemS_stab' hi h
  exact ⟨v, h1, fun H' hk K' hK => h2 H' hk _ hK⟩
 ·unfold onG at h ⊢
  split at h
  ·rename_i c hc
   split at h
   ·rename_i e
    obtain ⟨v, h1, h2⟩ := isemS_stab' hi h
    exact ⟨v, h1, fun H' hk K' hK => by rw [if_pos e]; exact h2 H' hk _ hK⟩
   ·rename_i e
    exact ⟨undef, h, fun H' hk K' hK => by rw [if_neg e]; exact hK⟩
  ·rename_i hv
   exact ⟨undef, h, fun H' hk K' hK => hK⟩
 ·unfold onG at h ⊢
  split at h
  ·rename_i c hc
   split at h
   ·rename_i e
    obtain ⟨v, h1, h2⟩ := isemS_stab' hi h
    exact ⟨v, h1, fun H' hk K' hK => by rw [if_pos e]; exact h2 H' hk _ hK⟩
   ·rename_i e
    exact ⟨undef, h, fun H' hk K' hK => by rw [if_neg e]; exact hK⟩
  ·rename_i hv
   exact ⟨undef, h, fun H' hk K' hK => hK⟩
theorem isemS_congr {i : I} {ρ ρ' : Operand → Value} {H : Hp} {κ : Value → Hp → Prop} (h : ∀ x ∈ i.args, ρ x = ρ' x) : isemS P S i ρ H κ = isemS P S i ρ' H κ := by
 cases i
 case ld x => simp only [isemS]; rw [h x (by simp [I.args])]
 case ldn n x => simp only [isemS]; rw [h x (by simp [I.args])]
 all_goals simp only [isemS]
 all_goals exact isem_congr (P := P) h
theorem isemS_mono' {i : I} {ρ : Operand → Value} {H : Hp} {κ κ' : Value → Hp → Prop} (hk : ∀ v H, κ v H → κ' v H) (h : isemS P S i ρ H κ) : isemS P S i ρ H κ' := by
 cases i
 case ld x => obtain ⟨b, o, e, hs, h⟩ := onPtr_iff h; obtain ⟨v, hv, h⟩ := onSome_iff h; simp only [isemS, e, onPtr, hv, onSome]; exact ⟨hs, hk _ _ h⟩
 case ldn n x => obtain ⟨b, o, e, hs, h⟩ := onPtr_iff h; obtain ⟨v, hv, h⟩ := onSome_iff h; simp only [isemS, e, onPtr, hv, onSome]; exact ⟨hs, hk _ _ h⟩
 all_goals simp only [isemS] at h ⊢
 all_goals exact isem_mono hk h
theorem owpS_agree {o : O} {f g : Fr} {H : Hp} {K K' : Fr → Hp → Prop} (h : ∀ t ∈ o.reads, f t = g t) (hK : ∀ u H', K (updO f o.dst u) H' → K' (updO g o.dst u) H') (ho : owpS P S o f H K) : owpS P S o g H K' := by
 cases o <;> simp only [owpS, O.reads, O.dst, updO] at h hK ho ⊢
 ·rw [isemS_congr (ev_agree h)] at ho
  exact isemS_mono' (fun v H' => hK v H') ho
 ·rw [isemS_congr (ev_agree h)] at ho
  exact isemS_mono' (fun v H' => hK v H') ho
 ·have h1 := h _ (List.mem_cons_self ..)
  rw [← h1]
  unfold onG at ho ⊢
  split
  ·split
   ·rename_i e1 e2 e3
    simp only [e2] at ho
    rw [if_pos e3] at ho
    rw [isemS_congr (ev_agree fun t ht => h t (List.mem_cons_of_mem _ ht))] at ho
    exact isemS_mono' (fun v H' => hK v H') ho
   ·rename_i e1 e2 e3
    simp only [e2] at ho
    rw [if_neg e3] at ho
    exact hK _ _ ho
  ·rename_i hv
   split at ho
   ·rename_i c hc; exact absurd hc (hv c)
   ·exact hK _ _ ho
 ·have h1 := h _ (List.mem_cons_self ..)
  rw [← h1]
  unfold onG at ho ⊢
  split
  ·split
   ·rename_i e1 e2 e3
    simp only [e2] at ho
    rw [if_pos e3] at ho
    rw [isemS_congr (ev_agree fun t ht => h t (List.mem_cons_of_mem _ ht))] at ho
    exact isemS_mono' (fun v H' => hK v H') ho
   ·rename_i e1 e2 e3
    simp only [e2] at ho
    rw [if_neg e3] at ho
    exact hK undef _ ho
  ·rename_i hv
   split at ho
   ·rename_i c hc; exact absurd hc (hv c)
   ·exact hK undef _ ho

theorem allocOf_congr {i : I} {ρ ρ' : Operand → Value} (h : ∀ x ∈ i.args, ρ x = ρ' x) : allocOf i ρ = allocOf i ρ' := by
 cases i
 case box t x => simp only [allocOf]; rw [h x (by simp [I.args])]
 case bsl t len z ps =>
  simp only [allocOf]
  have : (ps.map fun p => (p.1, p.2.1, ρ p.2.2)) = ps.map fun p => (p.1, p.2.1, ρ' p.2.2) := by
   apply List.map_congr_left
   intro p hp
   rw [h p.2.2 (by simp only [I.args, List.mem_map]; exact ⟨p, hp, rfl⟩)]
  rw [this]
 all_goals rfl
theorem fore_comm {o : O} {d : Nat} {i : I} (h : apart o (.s d i) = true) (g : Fr) (u w : Value) : (∀ t ∈ tmpsOf i.args, updO g o.dst u t = g t) ∧ (∀ t ∈ o.reads, upd g d w t = g t) ∧ upd (updO g o.dst u) d w = updO (upd g d w) o.dst u :=
 ⟨(updO_apart h g w u).2.1, (updO_apart h g w u).2.2, (updO_apart h g w u).1⟩
theorem alOk_agree {o : O} {f g : Fr} (h : ∀ t ∈ o.reads, f t = g t) (ho : alOk f o) : alOk g o := by
 cases o <;> simp only [alOk, O.reads] at h ho ⊢
 rw [← allocOf_congr (ev_agree h)]; exact ho
theorem preOk_agree {f g : Fr} : ∀ {l : List O}, (∀ o ∈ l, ∀ t ∈ o.reads, f t = g t) → preOk f l → preOk g l
 | [], _, h => h
 | o :: l, hr, h => ⟨alOk_agree (hr o (by simp)) h.1, preOk_agree (fun x hx => hr x (by simp [hx])) h.2⟩
theorem preOk_mem {f : Fr} {l : List O} (h : preOk f l) : ∀ o ∈ l, alOk f o := by
 induction l with
 | nil => intro o ho; cases ho
 | cons a l ih =>
  intro o ho
  rcases List.mem_cons.1 ho with rfl | ho
  ·exact h.1
  ·exact ih h.2 o ho
theorem Ext_refl' (H : Hp) : Ext H H := ⟨Nat.le_refl _, fun _ _ => rfl⟩
theorem Ext_trans' {A B C : Hp} (h : Ext A B) (k : Ext B C) : Ext A C := ⟨Nat.le_trans h.1 k.1, fun b hb => by rw [k.2 b (Nat.lt_of_lt_of_le hb h.1), h.2 b hb]⟩
theorem Ext_keep {A B : Hp} (h : Ext A B) (S : Nat → Prop) : KeepOn S A B := ⟨h.1, fun b hb _ => h.2 b hb⟩
theorem Ext_push' (H : Hp) (o : Obj) : Ext H (H.push o) := ⟨by simp, fun b hb => by rw [Array.getElem?_push, if_neg (by omega)]⟩

/-- What stands ahead of an operation that makes a block. -/
def Fore (d : Nat) (i : I) (x : Kd × O) : Prop := apart x.2 (.s d i) = true ∧ match x.1 with
 | .st => x.2.op.stab = true
 | .al => True
 | .ac pre => ∀ o ∈ pre, d ∉ o.reads
 | .fi _ => False
/-- An operation that makes a block may be done earlier. -/
theorem awl_early {i : I} {d : Nat} {c : Array Value} {t : Nat} {v : Nat → Value} {b : Nat} {K : Fr → Hp → Prop} {T2 : List (Kd × O)} : ∀ {T1 : List (Kd × O)} {F A : Nat → Prop} {f : Fr} {H H' : Hp}, awl P S n0 (T1 ++ (.al, .s d i) :: T2) F A f H K → (∀ x ∈ T1, Fore d i x) →
  allocOf i (ev f) = some (c, t, v) → Ext H H' → n0 ≤ b → b < H'.size → ¬ F b → ¬ A b → H'[b]? = some (.cells c t) → awl P S n0 (T1 ++ T2) F (fun x => A x ∨ x = b) (upd f d (v b)) H' K := by
 intro T1
 induction T1 with
 | nil =>
  intro F A f H H' h _ ha hE hn hb hF hA hc
  simp only [List.nil_append, awl, ha, onSome] at h
  exact h b H' hE hn hb hF hA hc
 | cons x T1 ih =>
  intro F A f H H' h hT ha hE hn hb hF hA hc
  obtain ⟨k, o⟩ := x
  obtain ⟨hap, hk⟩ := hT (k, o) (by simp)
  have hap : apart o (.s d i) = true := hap
  have hT' : ∀ x ∈ T1, Fore d i x := fun x hx => hT x (by simp [hx])
  have hread : ∀ (g : Fr) (u : Value), ∀ x ∈ i.args, ev (updO g o.dst u) x = ev g x := fun g u => ev_agree fun t ht => (fore_comm hap g u undef).1 t ht
  cases k with
  | st =>
   simp only [List.cons_append, awl] at h ⊢
   obtain ⟨u, h1, h2⟩ := owpS_stab' hk h
   have h3 := ih h1 hT' ((allocOf_congr (hread f u)).trans ha) hE hn hb hF hA hc
   refine owpS_agree (f := f) (fun t ht => ((fore_comm hap f undef (v b)).2.1 t ht).symm) (fun w G hG => ?_) (h2 H' (fun _ => Ext_keep hE S) (fun g G => g = updO f o.dst u ∧ G = H') ⟨rfl, rfl⟩)
   obtain ⟨e1, rfl⟩ := hG
   rw [updO_val e1, ← (fore_comm hap f u (v b)).2.2]
   exact h3
  | al =>
   cases o with
   | s d2 i2 =>
    simp only [List.cons_append, awl] at h ⊢
    have e2 : allocOf i2 (ev (upd f d (v b))) = allocOf i2 (ev f) := allocOf_congr (ev_agree fun t ht => (fore_comm hap f undef (v b)).2.1 t ht)
    rw [e2]
    cases hr : allocOf i2 (ev f) with
    | none => rw [hr] at h; exact h
    | some r =>
     rw [hr] at h
     simp only [onSome] at h ⊢
     intro bj Hj hEj hnj hbj hFj hAj hcj
     have hbne : b ≠ bj := fun e => hAj (.inr e.symm)
     have h1 := h bj Hj (Ext_trans' hE hEj) hnj hbj hFj (fun hx => hAj (.inl hx)) hcj
     have h3 := ih h1 hT' ((allocOf_congr (hread f (r.2.2 bj))).trans ha) (Ext_refl' _) hn (Nat.lt_of_lt_of_le hb hEj.1) hF (fun hx => hx.elim hA hbne) ((hEj.2 b hb).trans hc)
     have e3 : (fun x => (A x ∨ x = bj) ∨ x = b) = fun x => (A x ∨ x = b) ∨ x = bj := by funext x; exact propext or_right_comm
     rw [e3] at h3
     have e4 : upd (upd f d2 (r.2.2 bj)) d (v b) = upd (upd f d (v b)) d2 (r.2.2 bj) := (fore_comm hap f (r.2.2 bj) (v b)).2.2
     rw [← e4]; exact h3
   | e _ => simp only [List.cons_append, awl] at h
   | g _ _ _ _ => simp only [List.cons_append, awl] at h
   | ge _ _ _ => simp only [List.cons_append, awl] at h
  | ac pre =>
   simp only [List.cons_append, awl] at h ⊢
   refine ⟨preOk_agree (fun o ho t ht => ?_) h.1, fun H1 hE1 => ?_⟩
   ·have : t ≠ d := fun e => hk o ho (e ▸ ht)
    have e : (t == d) = false := by simpa using this
    rw [upd_apply, e]; rfl
   ·refine owp_agree (f := f) (fun t ht => ((fore_comm hap f undef (v b)).2.1 t ht).symm) (fun w G hG => ?_) (h.2 H1 (Ext_trans' hE hE1))
    obtain ⟨F', g1, g2, g3, g4, hG⟩ := hG
    have hb1 : b < H1.size := Nat.lt_of_lt_of_le hb hE1.1
    refine ⟨F', g1, g2, g3, fun x hx hh => g4 x hx (hh.imp (fun h => ⟨h.1, fun ha => h.2 (.inl ha)⟩) id), ?_⟩
    have h3 := ih hG hT' ((allocOf_congr (hread f w)).trans ha) (Ext_refl' _) hn (Nat.lt_of_lt_of_le hb1 g3) (fun hx => (g1 b hx).elim hF (by omega)) hA (by rw [g4 b hb1 (.inl ⟨hF, hA⟩), hE1.2 b hb, hc])
    rw [← (fore_comm hap f w (v b)).2.2]; exact h3
  | fi need => exact hk.elim

/-! The reckoning. -/
theorem itemsT_cons {l : DL} {i : Nat} {k : KI} {T : List (Nat × KI)} {q : O × List Nat} (hq : l[i]? = some q) : itemsT l ((i, k) :: T) = (toK l k, q.1) :: itemsT l T := by
 simp [itemsT, hq]
theorem itemsT_app (l : DL) (T U : List (Nat × KI)) : itemsT l (T ++ U) = itemsT l T ++ itemsT l U := by
 simp [itemsT]
theorem nonal_app (T U : List (Nat × KI)) : nonal (T ++ U) = nonal T ++ nonal U := by simp [nonal]
theorem nonal_al (i : Nat) (U : List (Nat × KI)) : nonal ((i, .al) :: U) = nonal U := by simp [nonal, KI.isAl]
theorem headOk_less {l : DL} {i j : Nat} {k : KI} {T1 T2 : List (Nat × KI)} (h : headOk l i k (T1 ++ (j, .al) :: T2) = true) : headOk l i k (T1 ++ T2) = true := by
 unfold headOk at h ⊢
 cases hq : l[i]? with
 | none => rw [hq] at h; exact h
 | some q =>
  rw [hq] at h
  have hn : nonal (T1 ++ (j, .al) :: T2) = nonal (T1 ++ T2) := by rw [nonal_app, nonal_app, nonal_al]
  have hsub : ∀ {p : Nat × KI → Bool}, (T1 ++ (j, .al) :: T2).all p = true → (T1 ++ T2).all p = true := by
   intro p hp
   simp only [List.all_append, List.all_cons, Bool.and_eq_true] at hp ⊢
   exact ⟨hp.1, hp.2.2⟩
  simp only [Bool.and_eq_true] at h ⊢
  refine ⟨hsub h.1, ?_⟩
  cases k with
  | st => exact h.2
  | al =>
   have h2 := h.2
   simp only [hn, Bool.and_eq_true] at h2 ⊢
   exact ⟨h2.1, hsub h2.2⟩
  | ac pre =>
   have h2 := h.2
   simp only [hn, Bool.and_eq_true] at h2 ⊢
   have g := h2.2
   refine ⟨hsub h2.1, ?_⟩
   rw [List.all_eq_true] at g ⊢
   exact fun x hx => hsub (g x hx)
  | fi need =>
   have h2 := h.2
   simp only [hn, Bool.and_eq_true] at h2 ⊢
   exact ⟨hsub h2.1, h2.2⟩
theorem okT_less {l : DL} {j : Nat} {T2 : List (Nat × KI)} : ∀ {T1 : List (Nat × KI)}, okT l (T1 ++ (j, .al) :: T2) = true → okT l (T1 ++ T2) = true := by
 intro T1
 induction T1 with
 | nil => intro h; simp only [List.nil_append, okT, Bool.and_eq_true] at h ⊢; exact h.2
 | cons a T1 ih =>
  obtain ⟨i, k⟩ := a
  intro h
  simp only [List.cons_append, okT, Bool.and_eq_true] at h ⊢
  exact ⟨headOk_less h.1, ih h.2⟩
theorem rdy_less {l : DL} {r r' : List Nat} {i : Nat} (h : rdy l r i = true) (hs : ∀ x ∈ r', x ∈ r) : rdy l r' i = true := by
 unfold rdy at h ⊢
 cases hq : l[i]? with
 | none => rw [hq] at h; exact h
 | some q =>
  simp only [hq, List.all_eq_true, Bool.not_eq_true', List.contains_eq_mem, decide_eq_false_iff_not] at h ⊢
  exact fun x hx hm => h x hx (hs x hm)
theorem nonal_sub {i : Nat} {k : KI} {T : List (Nat × KI)} : ∀ x ∈ i :: nonal T, x ∈ ((i, k) :: T).map (·.1) := by
 intro x hx
 rcases List.mem_cons.1 hx with rfl | hx
 ·simp
 ·simp only [nonal, List.mem_map, List.mem_filter] at hx
  obtain ⟨p, ⟨hp, -⟩, rfl⟩ := hx
  exact List.mem_cons_of_mem _ (List.mem_map_of_mem hp)

/-- What stands ahead of an operation that is ready and makes a block. -/
theorem fore_of {l : DL} {j : Nat} {q : O × List Nat} {T2 : List (Nat × KI)} (hq : l[j]? = some q) (hal : ∃ d i, q.1 = .s d i) : ∀ {T1 : List (Nat × KI)}, okT l (T1 ++ (j, .al) :: T2) = true → rdy l ((T1 ++ (j, .al) :: T2).map (·.1)) j = true →
  ∀ x ∈ itemsT l T1, ∃ d i, q.1 = .s d i ∧ Fore d i x := by
 obtain ⟨d, i, hqs⟩ := hal
 intro T1
 induction T1 with
 | nil => intro _ _ x hx; simp [itemsT] at hx
 | cons a T1 ih =>
  obtain ⟨m, k⟩ := a
  intro h hr x hx
  simp only [List.cons_append, okT, Bool.and_eq_true] at h
  obtain ⟨h1, h2⟩ := h
  have hr' : rdy l ((T1 ++ (j, .al) :: T2).map (·.1)) j = true := rdy_less hr fun x hx => by
   simp only [List.cons_append, List.map_cons]; exact List.mem_cons_of_mem _ hx
  unfold headOk at h1
  cases hm : l[m]? with
  | none => rw [hm] at h1; cases h1
  | some r =>
   rw [hm] at h1
   rw [itemsT_cons hm] at hx
   rcases List.mem_cons.1 hx with rfl | hx
   ·refine ⟨d, i, hqs, ?_⟩
    simp only [Bool.and_eq_true] at h1
    obtain ⟨g1, g2⟩ := h1
    have gj := List.all_eq_true.1 g1 (j, .al) (by simp)
    simp only [hq, Bool.or_eq_true] at gj
    have hnc : q.2.contains m = false := by
     simp only [rdy, hq] at hr
     cases hc : q.2.contains m with
     | false => rfl
     | true =>
      have := List.all_eq_true.1 hr m (by simpa using hc)
      simp at this
    have hap : apart r.1 (.s d i) = true := by
     rw [hnc] at gj
     rw [← hqs]
     rcases gj with h | h
     ·cases h
     ·exact h
    refine ⟨hap, ?_⟩
    cases k with
    | st => exact g2
    | al => trivial
    | ac pre =>
     simp only [Bool.and_eq_true] at g2
     intro o ho
     simp only [List.mem_filterMap, Option.map_eq_some_iff] at ho
     obtain ⟨y, hy, s, hs, rfl⟩ := ho
     have := List.all_eq_true.1 (List.all_eq_true.1 g2.2 y hy) (j, .al) (by simp)
     simp only [KI.isAl, Bool.not_true, Bool.false_or, dstOf', hq, hqs, O.dst, Option.toList_some, readsOf, hs, disj, List.all_cons, List.all_nil, Bool.and_true, Bool.not_eq_true', List.contains_eq_mem, decide_eq_false_iff_not] at this
     exact this
    | fi need =>
     simp only [Bool.and_eq_true] at g2
     have := List.all_eq_true.1 g2.1 (j, .al) (by simp)
     simp [KI.isAl] at this
   ·exact ih h2 hr' x hx

theorem mkAl_s {o : O} (h : o.mkAl = true) : ∃ d i, o = .s d i ∧ ∀ (f : Fr) (H : Hp) (K : Fr → Hp → Prop) (r : Array Value × Nat × (Nat → Value)), allocOf i (ev f) = some r → K (upd f d (r.2.2 H.size)) (H.push (.cells r.1 r.2.1)) → owp P o f H K := by
 cases o with
 | s d i =>
  refine ⟨d, i, rfl, fun f H K r hr hk => ?_⟩
  cases i <;> simp only [O.mkAl, Bool.false_eq_true] at h
  ·simp only [allocOf, Option.some.injEq] at hr; subst hr; exact hk
  ·simp only [allocOf, Option.some.injEq] at hr; subst hr; exact hk
  ·rename_i t len z ps
   simp only [allocOf, Option.map_eq_some_iff] at hr
   obtain ⟨c, hc, rfl⟩ := hr
   simp only [owp, isem, hc, onSome]
   exact hk
 | e _ => simp [O.mkAl] at h
 | g _ _ _ _ => simp [O.mkAl] at h
 | ge _ _ _ => simp [O.mkAl] at h
theorem head_of {l : DL} {i : Nat} {k : KI} {T : List (Nat × KI)} (h : headOk l i k T = true) : ∃ q, l[i]? = some q := by
 unfold headOk at h
 cases hq : l[i]? with
 | none => rw [hq] at h; cases h
 | some q => exact ⟨q, rfl⟩
theorem head_al {l : DL} {i : Nat} {T : List (Nat × KI)} {q : O × List Nat} (hq : l[i]? = some q) (h : headOk l i .al T = true) : q.1.mkAl = true := by
 unfold headOk at h
 rw [hq] at h
 simp only [Bool.and_eq_true] at h
 exact h.2.1
theorem okT_at {l : DL} {j : Nat} {k : KI} {T2 : List (Nat × KI)} : ∀ {T1 : List (Nat × KI)}, okT l (T1 ++ (j, k) :: T2) = true → headOk l j k T2 = true := by
 intro T1
 induction T1 with
 | nil => intro h; simp only [List.nil_append, okT, Bool.and_eq_true] at h; exact h.1
 | cons a T1 ih =>
  obtain ⟨i, k⟩ := a
  intro h
  simp only [List.cons_append, okT, Bool.and_eq_true] at h
  exact ih h.2
/-- What an operation makes is known as soon as it is ready. -/
theorem al_exists {l : DL} {j d : Nat} {i : I} {q : O × List Nat} {T2 : List (Nat × KI)} {K : Fr → Hp → Prop} (hq : l[j]? = some q) (hqs : q.1 = .s d i) : ∀ {T1 : List (Nat × KI)} {F A : Nat → Prop} {f : Fr} {H : Hp}, okT l (T1 ++ (j, .al) :: T2) = true → rdy l ((T1 ++ (j, .al) :: T2).map (·.1)) j = true →
  n0 ≤ H.size → (∀ x, F x → x < H.size) → (∀ x, A x → x < H.size) → awl P S n0 (itemsT l (T1 ++ (j, .al) :: T2)) F A f H K → ∃ r, allocOf i (ev f) = some r := by
 intro T1
 induction T1 with
 | nil =>
  intro F A f H _ _ _ _ _ h
  rw [List.nil_append, itemsT_cons hq, hqs] at h
  simp only [toK, awl] at h
  cases hr : allocOf i (ev f) with
  | none => rw [hr] at h; exact h.elim
  | some r => exact ⟨r, rfl⟩
 | cons a T1 ih =>
  obtain ⟨m, k⟩ := a
  intro F A f H hok hr hn hF hA h
  have hfore := fore_of hq ⟨d, i, hqs⟩ hok hr
  simp only [List.cons_append, okT, Bool.and_eq_true] at hok
  obtain ⟨hok1, hok2⟩ := hok
  have hr' : rdy l ((T1 ++ (j, .al) :: T2).map (·.1)) j = true := rdy_less hr fun x hx => by
   simp only [List.cons_append, List.map_cons]; exact List.mem_cons_of_mem _ hx
  obtain ⟨r, hm⟩ := head_of hok1
  rw [List.cons_append, itemsT_cons hm] at h
  rw [itemsT_cons hm] at hfore
  obtain ⟨d', i', e, hap, hk⟩ := hfore (toK l k, r.1) (by simp)
  rw [hqs] at e
  obtain ⟨rfl, rfl⟩ := O.s.inj e
  have hap : apart r.1 (.s d i) = true := hap
  have hread : ∀ (g : Fr) (u : Value), allocOf i (ev (updO g r.1.dst u)) = allocOf i (ev g) := fun g u => allocOf_congr (ev_agree fun t ht => (fore_comm hap g u undef).1 t ht)
  cases k with
  | st =>
   simp only [toK, awl] at h
   obtain ⟨u, h1, -⟩ := owpS_stab' hk h
   obtain ⟨s, hs⟩ := ih hok2 hr' hn hF hA h1
   exact ⟨s, by rw [← hread f u]; exact hs⟩
  | al =>
   obtain ⟨d2, i2, e2, -⟩ := mkAl_s (P := P) (head_al hm hok1)
   rw [e2] at h hread
   simp only [toK, awl] at h
   cases hs : allocOf i2 (ev f) with
   | none => rw [hs] at h; exact h.elim
   | some s =>
    rw [hs] at h
    have h1 := h H.size (H.push (.cells s.1 s.2.1)) (Ext_push' _ _) hn (by simp) (fun hx => by have := hF _ hx; omega) (fun hx => by have := hA _ hx; omega) (by simp)
    obtain ⟨w, hw⟩ := ih hok2 hr' (by simp; omega) (fun x hx => by have := hF x hx; simp; omega) (fun x hx => by
     rcases hx with hx | rfl
     ·have := hA x hx; simp; omega
     ·simp) h1
    have e3 := hread f (s.2.2 H.size)
    exact ⟨w, by rw [← e3]; exact hw⟩
  | ac pre =>
   simp only [toK, awl] at h
   unfold headOk at hok1
   rw [hm] at hok1
   simp only [Bool.and_eq_true] at hok1
   have g := List.all_eq_true.1 hok1.2.1 (j, .al) (by simp)
   have hrn : rdy l (m :: nonal (T1 ++ (j, .al) :: T2)) j = true := rdy_less hr (by rw [List.cons_append]; exact nonal_sub)
   simp only [hrn, Bool.not_true, Bool.false_or, Bool.and_eq_true] at g
   have hmem : O.s d i ∈ pre.filterMap fun j => (l[j]?).map (·.1) := by
    simp only [List.mem_filterMap]
    exact ⟨j, by simpa using g.2, by rw [hq]; simp [hqs]⟩
   have := preOk_mem h.1 _ hmem
   simp only [alOk] at this
   exact Option.isSome_iff_exists.1 this
  | fi need => exact hk.elim

theorem needG_of {l : DL} {i j : Nat} {o q : O × List Nat} (ho : l[i]? = some o) (hq : l[j]? = some q) (hl : o.1.op.isLoad = true) (hc : q.2.contains i = false) : needG l j = true := by
 unfold needG
 rw [hq]
 cases h : (List.range l.length).all fun i => match l[i]? with | some r => !r.1.op.isLoad || q.2.contains i | none => true with
 | false => simp only [h, Bool.not_false]
 | true =>
  have := List.all_eq_true.1 h i (List.mem_range.2 (List.getElem?_eq_some_iff.1 ho).1)
  rw [ho] at this
  simp only [hl, hc, Bool.not_true, Bool.or_false] at this
  cases this
theorem alc_dwp {l : DL} {K : Fr → Hp → Prop} : ∀ (n : Nat) (T : List (Nat × KI)) (F A : Nat → Prop) (f : Fr) (H : Hp), T.length = n → (T.map (·.1)).Nodup → okT l T = true →
  (T.any (fun p => p.2.isAl) = true → n0 ≤ H.size ∧ (∀ x, F x → x < H.size) ∧ ∀ x, A x → x < H.size ∧ ¬ F x) → awl P S n0 (itemsT l T) F A f H K →
  dwpO P (fun j H H' => needG l j = true → KeepOn S H H') l n (T.map (·.1)) f H K := by
 intro n
 induction n with
 | zero =>
  intro T F A f H hlen _ _ _ h
  rw [List.length_eq_zero_iff.1 hlen] at h
  exact h
 | succ n ih =>
  intro T F A f H hlen hnd hok hinv h
  match T, hlen with
  | (i, k) :: T, hlen =>
  simp only [List.length_cons, Nat.add_right_cancel_iff] at hlen
  have hokk := hok
  simp only [okT, Bool.and_eq_true] at hok
  obtain ⟨hok1, hok2⟩ := hok
  have hnd' := hnd
  simp only [List.map_cons, List.nodup_cons] at hnd'
  obtain ⟨q, hq⟩ := head_of hok1
  have hok1' := hok1
  unfold headOk at hok1'
  rw [hq] at hok1'
  simp only [Bool.and_eq_true] at hok1'
  obtain ⟨hC1, hkk⟩ := hok1'
  have h0 := h
  rw [itemsT_cons hq] at h
  -- an operation that makes a block is chosen ahead of its turn
  have early : ∀ j qj, (j, KI.al) ∈ T → rdy l (((i, k) :: T).map (·.1)) j = true → l[j]? = some qj → owp P qj.1 f H fun f' H' => (needG l j = true → KeepOn S H H') ∧ dwpO P (fun j H H' => needG l j = true → KeepOn S H H') l n ((((i, k) :: T).map (·.1)).erase j) f' H' K := by
   intro j qj hj hrj hqj
   obtain ⟨T1, T2, rfl⟩ := List.append_of_mem hj
   have hany : ((i, k) :: (T1 ++ (j, KI.al) :: T2)).any (fun p => p.2.isAl) = true := by simp [KI.isAl]
   obtain ⟨hn, hF, hA⟩ := hinv hany
   obtain ⟨d, ij, e, hrun⟩ := mkAl_s (P := P) (head_al hqj (okT_at (T1 := (i, k) :: T1) hokk))
   obtain ⟨r, hr⟩ := al_exists (T1 := (i, k) :: T1) hqj e hokk hrj hn hF (fun x hx => (hA x hx).1) h0
   refine hrun f H _ r hr ⟨fun _ => KeepOn.push _ _ _, ?_⟩
   have hfore := fore_of (T1 := (i, k) :: T1) hqj ⟨d, ij, e⟩ hokk hrj
   have hae : awl P S n0 (itemsT l ((i, k) :: T1) ++ (.al, .s d ij) :: itemsT l T2) F A f H K := by
    have := h0
    rw [← List.cons_append, itemsT_app, itemsT_cons hqj, e] at this
    exact this
   have h1 := awl_early (b := H.size) (H' := H.push (.cells r.1 r.2.1)) hae (fun x hx => by
    obtain ⟨d', i', e', hf⟩ := hfore x hx
    rw [e] at e'
    obtain ⟨rfl, rfl⟩ := O.s.inj e'
    exact hf) hr (Ext_push' _ _) hn (by simp) (fun hx => by have := hF _ hx; omega) (fun hx => by have := (hA _ hx).1; omega) (by simp)
   rw [← itemsT_app] at h1
   have hp : (((i, k) :: (T1 ++ (j, KI.al) :: T2)).map (·.1)).Perm (j :: ((i, k) :: T1 ++ T2).map (·.1)) := by
    have : ((i, k) :: (T1 ++ (j, KI.al) :: T2)).Perm ((j, KI.al) :: ((i, k) :: T1 ++ T2)) := by
     rw [← List.cons_append]; exact List.perm_middle
    exact this.map _
   have hpe := hp.erase j
   rw [List.erase_cons_head] at hpe
   refine dwpO_perm hpe.symm ?_
   refine ih ((i, k) :: T1 ++ T2) F (fun x => A x ∨ x = H.size) _ _ ?_ ?_ (okT_less (T1 := (i, k) :: T1) hokk) (fun _ => ⟨by simp; omega, fun x hx => by have := hF x hx; simp; omega, fun x hx => ?_⟩) h1
   ·simp only [List.length_append, List.length_cons] at hlen ⊢; omega
   ·exact (List.nodup_cons.1 (hp.nodup_iff.1 hnd)).2
   ·rcases hx with hx | rfl
    ·exact ⟨by have := (hA x hx).1; simp; omega, (hA x hx).2⟩
    ·exact ⟨by simp, fun hx => by have := hF _ hx; omega⟩
  have pick : ∀ j, j ∈ ((i, k) :: T).map (·.1) → j ≠ i → ∃ kj, (j, kj) ∈ T := by
   intro j hj hji
   simp only [List.map_cons, List.mem_cons, List.mem_map] at hj
   rcases hj with hj | ⟨p, hp, rfl⟩
   ·exact absurd hj hji
   ·exact ⟨p.2, hp⟩
  have hless : ∀ j, rdy l (((i, k) :: T).map (·.1)) j = true → rdy l (i :: nonal T) j = true := fun j hj => rdy_less hj nonal_sub
  cases k with
  | st =>
   simp only [toK, awl] at h
   have hkk : q.1.op.stab = true := hkk
   obtain ⟨u, h1, -⟩ := owpS_stab' hkk h
   obtain ⟨u', g1, g2⟩ := owpS_stab hkk h
   have h3 := ih T F A _ H hlen hnd'.2 hok2 (fun ha => hinv (by simp [ha])) g1
   refine dwpO_take (Ob := fun j H H' => needG l j = true → KeepOn S H H') (n := n) (S := S) (i := i) hq (v := u') (rem := ((i, KI.st) :: T).map (·.1)) (by simp [hlen]) hnd (by simp) (fun _ _ _ => trivial) (fun H _ => KeepOn.refl _ _) ?_ ?_ g2 ?_
   ·intro j qj hj hji hqj
    obtain ⟨kj, hm⟩ := pick j hj hji
    have := List.all_eq_true.1 hC1 _ hm
    simp only [hqj, Bool.or_eq_true] at this
    exact this
   ·intro j qj hj hji hqj hnw hld H1 H2 hob
    exact hob (needG_of hq hqj hld hnw)
   ·have her : (((i, KI.st) :: T).map (·.1)).erase i = T.map (·.1) := by simp
    rw [her]; exact h3
  | al =>
   intro j qj hj hrj hqj
   simp only [Bool.and_eq_true] at hkk
   by_cases hji : j = i
   ·subst hji
    rw [hq] at hqj
    obtain rfl := Option.some.inj hqj
    obtain ⟨hn, hF, hA⟩ := hinv (by simp [KI.isAl])
    obtain ⟨d, ij, e, hrun⟩ := mkAl_s (P := P) (head_al hq hok1)
    rw [e] at h
    simp only [toK, awl] at h
    cases hs : allocOf ij (ev f) with
    | none => rw [hs] at h; exact h.elim
    | some r =>
     rw [hs] at h
     refine hrun f H _ r hs ⟨fun _ => KeepOn.push _ _ _, ?_⟩
     have h1 := h H.size (H.push (.cells r.1 r.2.1)) (Ext_push' _ _) hn (by simp) (fun hx => by have := hF _ hx; omega) (fun hx => by have := (hA _ hx).1; omega) (by simp)
     have her : (((j, KI.al) :: T).map (·.1)).erase j = T.map (·.1) := by simp
     rw [her]
     refine ih T F _ _ _ hlen hnd'.2 hok2 (fun _ => ⟨by simp; omega, fun x hx => by have := hF x hx; simp; omega, fun x hx => ?_⟩) h1
     rcases hx with hx | rfl
     ·exact ⟨by have := (hA x hx).1; simp; omega, (hA x hx).2⟩
     ·exact ⟨by simp, fun hx => by have := hF _ hx; omega⟩
   ·obtain ⟨kj, hm⟩ := pick j hj hji
    have g := List.all_eq_true.1 hkk.2 _ hm
    simp only [hless j hrj, Bool.not_true, Bool.or_false] at g
    cases kj <;> simp [KI.isAl] at g
    exact early j qj hm hrj hqj
  | ac pre =>
   intro j qj hj hrj hqj
   simp only [Bool.and_eq_true] at hkk
   by_cases hji : j = i
   ·subst hji
    rw [hq] at hqj
    obtain rfl := Option.some.inj hqj
    simp only [toK, awl] at h
    refine owp_mono (fun f' H2 hh => ?_) (h.2 H (Ext_refl' _))
    obtain ⟨F', g1, g2, g3, g4, hh⟩ := hh
    refine ⟨fun _ => ⟨g3, fun b hb hs => g4 b hb (.inr hs)⟩, ?_⟩
    have her : (((j, KI.ac pre) :: T).map (·.1)).erase j = T.map (·.1) := by simp
    rw [her]
    refine ih T F' A _ _ hlen hnd'.2 hok2 (fun ha => ?_) hh
    obtain ⟨hn, hF, hA⟩ := hinv (by simp only [List.any_cons, ha, Bool.or_true])
    exact ⟨by omega, g2, fun x hx => ⟨Nat.lt_of_lt_of_le (hA x hx).1 g3, fun hf => (g1 x hf).elim (hA x hx).2 (by have := (hA x hx).1; omega)⟩⟩
   ·obtain ⟨kj, hm⟩ := pick j hj hji
    have g := List.all_eq_true.1 hkk.1 _ hm
    simp only [hless j hrj, Bool.not_true, Bool.false_or, Bool.and_eq_true] at g
    cases kj <;> simp [KI.isAl] at g
    exact early j qj hm hrj hqj
  | fi need =>
   intro j qj hj hrj hqj
   simp only [Bool.and_eq_true] at hkk
   by_cases hji : j = i
   ·subst hji
    rw [hq] at hqj
    obtain rfl := Option.some.inj hqj
    simp only [toK, awl] at h
    refine owp_mono (fun f' H2 hh => ?_) h
    refine ⟨fun hng => hh.1 ?_, ?_⟩
    ·have := hkk.2
     rw [hng] at this
     simpa using this
    have her : (((j, KI.fi need) :: T).map (·.1)).erase j = T.map (·.1) := by simp
    rw [her]
    refine ih T F A _ _ hlen hnd'.2 hok2 (fun ha => ?_) hh.2
    rw [List.any_eq_true] at ha
    obtain ⟨p, hp, hpa⟩ := ha
    have := List.all_eq_true.1 hkk.1 p hp
    simp [hpa] at this
   ·obtain ⟨kj, hm⟩ := pick j hj hji
    have g := List.all_eq_true.1 hkk.1 _ hm
    simp [hless j hrj] at g
/-- THE RULE: a region in which blocks are made is walked in one order. -/
theorem alc_of {l : DL} {T : List (Nat × KI)} (hlen : T.length = l.length) (hperm : (List.range l.length).isPerm (T.map (·.1)) = true) (hok : okT l T = true) {f : Fr} {H : Hp} {Q : Ex → Fr → Hp → Prop} (h : cwp P (.alc (itemsT l T)) f H Q) : cwp P (.drw l) f H Q := by
 obtain ⟨S, F, hF, h⟩ := h
 have hp : (List.range l.length).Perm (T.map (·.1)) := List.isPerm_iff.1 hperm
 have hnd : (T.map (·.1)).Nodup := hp.nodup_iff.1 List.nodup_range
 have := alc_dwp (n0 := H.size) T.length T F (fun _ => False) f H rfl hnd hok (fun _ => ⟨Nat.le_refl _, hF, fun _ hx => hx.elim⟩) h
 rw [hlen] at this
 exact dwp_of_O (dwpO_perm hp.symm this)

/-! The order, found by a reckoning. -/
def greedyT (l : DL) : Nat → List Nat → List (Nat × KI)
 | 0, _ => []
 | n + 1, rem =>
  let al (j : Nat) : Bool := match l[j]? with | some q => q.1.mkAl | none => false
  match rem.find? (fun i => rdy l rem i && (match l[i]? with | some o => o.1.op.stab | none => false)) with
  | some i => (i, .st) :: greedyT l n (rem.erase i)
  | none => match rem.find? (fun i => rdy l rem i && !al i) with
   | some i =>
    let k := if (rem.erase i).any (fun j => al j || !(match l[j]? with | some o => o.1.op.stab | none => false)) then
      (if (rem.erase i).any al then KI.ac ((rem.erase i).filter fun j => al j && rdy l (i :: (rem.erase i).filter fun x => !al x) j) else KI.fi (needG l i)) else KI.fi (needG l i)
    (i, k) :: greedyT l n (rem.erase i)
   | none => match rem.find? (rdy l rem) with
    | some i => (i, .al) :: greedyT l n (rem.erase i)
    | none => []
def alcD (l : DL) : C :=
 let T := greedyT l l.length (List.range l.length)
 if T.length = l.length ∧ (List.range l.length).isPerm (T.map (·.1)) = true ∧ okT l T = true then .alc (itemsT l T) else .drw l
theorem alcD_sound {l : DL} {f : Fr} {H : Hp} {Q : Ex → Fr → Hp → Prop} (h : cwp P (alcD l) f H Q) : cwp P (.drw l) f H Q := by
 unfold alcD at h
 simp only at h
 split at h
 ·rename_i hc
  exact alc_of hc.1 hc.2.1 hc.2.2 h
 ·exact h
end
end Go.WK
/-
 How a walk runs: the small language's operations as equations, for simp.
-/
namespace Go.WK
open Go

/-! What stands behind a call or a guard lies in an instance: simp does not look into it. -/
class CK where
 k : Value → Hp → Prop
def callK (P : Program) (g : Nat) (vs : List Value) (H : Hp) [c : CK] : Prop := Cl P g vs H c.k
class CG where
 a : Prop
 b : Prop
def gv (v : Value) (b : Bool) [c : CG] : Prop := onG v b c.a c.b
theorem gv_t {A B : Prop} : @gv (.bool true) true ⟨A, B⟩ = A := by simp [gv, onG]
theorem gv_f {A B : Prop} : @gv (.bool false) false ⟨A, B⟩ = A := by simp [gv, onG]
theorem gv_tf {A B : Prop} : @gv (.bool true) false ⟨A, B⟩ = B := by simp [gv, onG]
theorem gv_ft {A B : Prop} : @gv (.bool false) true ⟨A, B⟩ = B := by simp [gv, onG]
theorem gv_u {A B : Prop} {b : Bool} : @gv undef b ⟨A, B⟩ = B := nrfl rfl
def appK (H : Hp) (t k bytes : Nat) (z : List Value) (a : Option Addr) (n c m : Nat) (l : List Value) [κ : CK] : Prop := appS H κ.k t k bytes z a n c m l
/-- A text as bytes: whatever room there is. -/
def csbK (H : Hp) (t : Nat) (s : ByteArray) [κ : CK] : Prop := ∀ c : Nat, s.size ≤ c → κ.k (.slice (some ⟨H.size, 0, none⟩) s.size c) (H.push (.cells (cellsOfBytes s.data.toList ++ List.replicate (c - s.size) (Value.int .u8 0)).toArray t (c, c + 1)))
def cbsK (H : Hp) (a : Option Addr) (n : Nat) [κ : CK] : Prop := match a with
 | none => κ.k (.string .empty) H
 | some a => a.spot = none ∧ onSome (rdn H a.block a.off n) fun l => onSome (bytesOfCells l) fun bs => κ.k (.string ⟨bs.toArray⟩) H
theorem w_csb {H : Hp} {t : Nat} {s : ByteArray} {κ : Value → Hp → Prop} (h : ∀ c : Nat, s.size ≤ c → κ (.slice (some ⟨H.size, 0, none⟩) s.size c) (H.push (.cells (cellsOfBytes s.data.toList ++ List.replicate (c - s.size) (Value.int .u8 0)).toArray t (c, c + 1)))) : @csbK H t s ⟨κ⟩ := h
class CA where
 k : Nat → Hp → Prop
def alK (n0 : Nat) (F A : Nat → Prop) (H : Hp) (c : Array Value) (t : Nat) [κ : CA] : Prop := alP n0 F A H c t κ.k
class CH where
 k : Hp → Prop
def acK (H : Hp) [κ : CH] : Prop := ∀ H1, Ext H H1 → κ.k H1
section
variable {P : Program} {S : Nat → Prop} {l : List O} {b : C} {f : Fr} {H : Hp} {K : Fr → Hp → Prop} {Q : Ex → Fr → Hp → Prop} {ρ : Operand → Value} {κ : Value → Hp → Prop}

theorem w_reg (h : ∀ K : Fr → Hp → Prop, (∀ f H, cwp P b f H Q → K f H) → rwp P l f H K) : cwp P (.seq (.reg l) b) f H Q :=
 h (fun f H => cwp P b f H Q) fun _ _ h => h
theorem w_reg1 (h : ∀ K : Fr → Hp → Prop, (∀ f H, Q .normal f H → K f H) → rwp P l f H K) : cwp P (.reg l) f H Q :=
 h (Q .normal) fun _ _ h => h
theorem w_lin {l : List (Bool × O)} (S : Nat → Prop) (h : ∀ K : Fr → Hp → Prop, (∀ f H, cwp P b f H Q → K f H) → lwp P S l f H K) : cwp P (.seq (.lin l) b) f H Q :=
 ⟨S, h (fun f H => cwp P b f H Q) fun _ _ h => h⟩
theorem w_lin1 {l : List (Bool × O)} (S : Nat → Prop) (h : ∀ K : Fr → Hp → Prop, (∀ f H, Q .normal f H → K f H) → lwp P S l f H K) : cwp P (.lin l) f H Q :=
 ⟨S, h (Q .normal) fun _ _ h => h⟩
theorem w_alc {l : List (Kd × O)} (S F : Nat → Prop) (hF : ∀ x, F x → x < H.size) (h : ∀ K : Fr → Hp → Prop, (∀ f H, cwp P b f H Q → K f H) → awl P S H.size l F (fun _ => False) f H K) : cwp P (.seq (.alc l) b) f H Q := ⟨S, F, hF, h _ fun _ _ h => h⟩
theorem w_alc1 {l : List (Kd × O)} (S F : Nat → Prop) (hF : ∀ x, F x → x < H.size) (h : ∀ K : Fr → Hp → Prop, (∀ f H, Q .normal f H → K f H) → awl P S H.size l F (fun _ => False) f H K) : cwp P (.alc l) f H Q := ⟨S, F, hF, h _ fun _ _ h => h⟩
theorem w_al {n0 : Nat} {F A : Nat → Prop} {c : Array Value} {t : Nat} {κ : Nat → Hp → Prop} (h : ∀ b H', Ext H H' → n0 ≤ b → b < H'.size → ¬ F b → ¬ A b → H'[b]? = some (.cells c t) → κ b H') : @alK n0 F A H c t ⟨κ⟩ := h
theorem w_ac {κ : Hp → Prop} (h : ∀ H1, Ext H H1 → κ H1) : @acK H ⟨κ⟩ := h
theorem isemS_mono {S : Nat → Prop} {i : I} {κ' : Value → Hp → Prop} (hk : ∀ v H, κ v H → κ' v H) (h : isemS P S i ρ H κ) : isemS P S i ρ H κ' := by
 cases i
 case ld x =>
  obtain ⟨b, o, e, hs, h⟩ := onPtr_iff h
  obtain ⟨v, hv, h⟩ := onSome_iff h
  simp only [isemS, e, onPtr, hv, onSome]
  exact ⟨hs, hk _ _ h⟩
 case ldn n x =>
  obtain ⟨b, o, e, hs, h⟩ := onPtr_iff h
  obtain ⟨v, hv, h⟩ := onSome_iff h
  simp only [isemS, e, onPtr, hv, onSome]
  exact ⟨hs, hk _ _ h⟩
 all_goals simp only [isemS] at h ⊢
 all_goals exact isem_mono hk h
theorem owpS_mono {S : Nat → Prop} {o : O} {K' : Fr → Hp → Prop} (hk : ∀ f H, K f H → K' f H) (h : owpS P S o f H K) : owpS P S o f H K' := by
 cases o <;> simp only [owpS] at h ⊢
 ·exact isemS_mono (fun _ _ => hk _ _) h
 ·exact isemS_mono (fun _ _ => hk _ _) h
 ·unfold onG at h ⊢
  split
  ·rename_i c hc
   simp only [hc] at h
   split
   ·rename_i e; rw [if_pos e] at h; exact isemS_mono (fun _ _ => hk _ _) h
   ·rename_i e; rw [if_neg e] at h; exact hk _ _ h
  ·rename_i hv
   split at h
   ·rename_i c hc; exact absurd hc (hv c)
   ·exact hk _ _ h
 ·unfold onG at h ⊢
  split
  ·rename_i c hc
   simp only [hc] at h
   split
   ·rename_i e; rw [if_pos e] at h; exact isemS_mono (fun _ _ => hk _ _) h
   ·rename_i e; rw [if_neg e] at h; exact hk _ _ h
  ·rename_i hv
   split at h
   ·rename_i c hc; exact absurd hc (hv c)
   ·exact hk _ _ h
theorem w_seq {a : C} (h : cwp P a f H (thenQ (fun f H => cwp P b f H Q) Q)) : cwp P (.seq a b) f H Q := h
theorem w_blk {id : Nat} (h : cwp P b f H (blkQ id Q)) : cwp P (.blk id b) f H Q := h
theorem w_loop {a : C} (J : Nat → Fr → Hp → Prop) (n : Nat) (h0 : J n f H) (h : ∀ n f H, J n f H → cwp P a f H (thenQ (fun f' H' => ∃ m, m < n ∧ J m f' H') Q)) : cwp P (.loop a) f H Q := ⟨J, ⟨n, h0⟩, h⟩
theorem w_true {a c : C} {x : Operand} (hx : ev f x = .bool true) (h : cwp P a f H Q) : cwp P (.cnd x a c) f H Q := by
 simp only [cwp, hx, onBool]; exact h
theorem w_false {a c : C} {x : Operand} (hx : ev f x = .bool false) (h : cwp P c f H Q) : cwp P (.cnd x a c) f H Q := by
 simp only [cwp, hx, onBool]; exact h
theorem w_skip (h : Q .normal f H) : cwp P .skip f H Q := h
theorem w_exit {id : Nat} (h : Q (.exit id) f H) : cwp P (.exit id) f H Q := h
theorem w_ret (h : Q .ret f H) : cwp P .ret f H Q := h
theorem w_mono : ∀ {c : C} {Q Q' : Ex → Fr → Hp → Prop} (hq : ∀ e f H, Q e f H → Q' e f H) {f : Fr} {H : Hp}, cwp P c f H Q → cwp P c f H Q' := by
 intro c
 induction c with
 | skip => intro Q Q' hq f H h; exact hq _ _ _ h
 | reg l =>
  intro Q Q' hq f H h
  simp only [cwp] at h ⊢
  induction l generalizing f H with
  | nil => exact hq _ _ _ h
  | cons o l ih => exact owp_mono (fun f' H' h' => ih h') h
 | drw l =>
  intro Q Q' hq f H h
  simp only [cwp] at h ⊢
  generalize l.length = n at h ⊢
  generalize List.range n = rem at h ⊢
  induction n generalizing f H rem with
  | zero => exact hq _ _ _ h
  | succ n ih => exact fun i o hi hr ho => owp_mono (fun f' H' h' => ih _ h') (h i o hi hr ho)
 | lin l =>
  intro Q Q' hq f H h
  obtain ⟨S, h⟩ := h
  refine ⟨S, ?_⟩
  induction l generalizing f H with
  | nil => exact hq _ _ _ h
  | cons o l ih =>
   obtain ⟨b, o⟩ := o
   exact owpS_mono (fun f' H' h' => ⟨h'.1, ih h'.2⟩) h
 | alc l =>
  intro Q Q' hq f H h
  obtain ⟨S, F, hF, h⟩ := h
  refine ⟨S, F, hF, ?_⟩
  generalize H.size = n0 at h ⊢
  clear hF
  generalize (fun _ : Nat => False) = A at h ⊢
  induction l generalizing f H F A with
  | nil => exact hq _ _ _ h
  | cons x l ih =>
   obtain ⟨k, o⟩ := x
   cases k with
   | st => exact owpS_mono (fun f' H' h' => ih _ _ h') h
   | al =>
    cases o with
    | s d i =>
     simp only [awl] at h ⊢
     cases hr : allocOf i (ev f) with
     | none => rw [hr] at h; exact h
     | some r =>
      rw [hr] at h
      exact fun b H' h1 h2 h3 h4 h5 h6 => ih _ _ (h b H' h1 h2 h3 h4 h5 h6)
    | e _ => exact h.elim
    | g _ _ _ _ => exact h.elim
    | ge _ _ _ => exact h.elim
   | ac pre => exact ⟨h.1, fun H1 h1 => owp_mono (fun f' H' h' => by
     obtain ⟨F', g1, g2, g3, g4, h'⟩ := h'
     exact ⟨F', g1, g2, g3, g4, ih _ _ h'⟩) (h.2 H1 h1)⟩
   | fi need => exact owp_mono (fun f' H' h' => ⟨h'.1, ih _ _ h'.2⟩) h
 | seq a b iha ihb =>
  intro Q Q' hq f H h
  refine iha ?_ h
  intro e f H h
  cases e with
  | normal => exact ihb hq h
  | exit id => exact hq _ _ _ h
  | ret => exact hq _ _ _ h
 | cnd x a b iha ihb =>
  intro Q Q' hq f H h
  obtain ⟨t, ht, h⟩ := onBool_iff h
  simp only [cwp, ht, onBool]
  cases t
  ·exact ihb hq h
  ·exact iha hq h
 | blk id a ih =>
  intro Q Q' hq f H h
  refine ih ?_ h
  intro e f H h
  cases e with
  | normal => exact hq _ _ _ h
  | exit j => simp only [blkQ] at h ⊢; split <;> rename_i hh <;> simp only [hh, if_true, if_false] at h <;> exact hq _ _ _ h
  | ret => exact hq _ _ _ h
 | loop a ih =>
  intro Q Q' hq f H h
  obtain ⟨J, h0, h⟩ := h
  refine ⟨J, h0, fun n f H hJ => ih ?_ (h n f H hJ)⟩
  intro e f H h
  cases e with
  | normal => exact h
  | exit id => exact hq _ _ _ h
  | ret => exact hq _ _ _ h
 | exit id => intro Q Q' hq f H h; exact hq _ _ _ h
 | ret => intro Q Q' hq f H h; exact hq _ _ _ h
/-- The ways meet again: what holds there. -/
theorem w_cut {a : C} (N : Fr → Hp → Prop) (h1 : cwp P a f H (thenQ N Q)) (h2 : ∀ f H, N f H → cwp P b f H Q) : cwp P (.seq a b) f H Q := by
 show cwp P a f H (thenQ (fun f H => cwp P b f H Q) Q)
 refine w_mono (Q := thenQ N Q) ?_ h1
 intro e f H h
 cases e with
 | normal => exact h2 f H h
 | exit id => exact h
 | ret => exact h

/-- The ways meet at the end. -/
theorem w_meet {a : C} (N : Fr → Hp → Prop) (h1 : cwp P a f H (thenQ N Q)) (h2 : ∀ f H, N f H → Q .normal f H) : cwp P a f H Q :=
 w_mono (fun e f H h => by cases e with
  | normal => exact h2 f H h
  | exit id => exact h
  | ret => exact h) h1
theorem thenQ_n (N : Fr → Hp → Prop) (Q : Ex → Fr → Hp → Prop) (f : Fr) (H : Hp) : thenQ N Q .normal f H = N f H := nrfl rfl
theorem thenQ_e (N : Fr → Hp → Prop) (Q : Ex → Fr → Hp → Prop) (id : Nat) (f : Fr) (H : Hp) : thenQ N Q (.exit id) f H = Q (.exit id) f H := nrfl rfl
theorem thenQ_r (N : Fr → Hp → Prop) (Q : Ex → Fr → Hp → Prop) (f : Fr) (H : Hp) : thenQ N Q .ret f H = Q .ret f H := nrfl rfl
theorem blkQ_n (id : Nat) (Q : Ex → Fr → Hp → Prop) (f : Fr) (H : Hp) : blkQ id Q .normal f H = Q .normal f H := nrfl rfl
theorem blkQ_e (id j : Nat) (Q : Ex → Fr → Hp → Prop) (f : Fr) (H : Hp) : blkQ id Q (.exit j) f H = if j = id then Q .normal f H else Q (.exit j) f H := nrfl rfl
theorem blkQ_r (id : Nat) (Q : Ex → Fr → Hp → Prop) (f : Fr) (H : Hp) : blkQ id Q .ret f H = Q .ret f H := nrfl rfl

/-! The equations. -/
theorem r_nil : rwp P [] f H K = K f H := nrfl rfl
theorem r_s {d : Nat} {i : I} : rwp P (.s d i :: l) f H K = isem P i (ev f) H fun v H' => rwp P l (upd f d v) H' K := nrfl rfl
theorem r_e {i : I} : rwp P (.e i :: l) f H K = isem P i (ev f) H fun _ H' => rwp P l f H' K := nrfl rfl
theorem r_g {d t : Nat} {b : Bool} {i : I} : rwp P (.g d t b i :: l) f H K = @gv (f t) b ⟨isem P i (ev f) H fun v H' => rwp P l (upd f d v) H' K, rwp P l (upd f d undef) H K⟩ := nrfl rfl
theorem r_ge {t : Nat} {b : Bool} {i : I} : rwp P (.ge t b i :: l) f H K = @gv (f t) b ⟨isem P i (ev f) H fun _ H' => rwp P l f H' K, rwp P l f H K⟩ := nrfl rfl
theorem i_mv {x : Operand} : isem P (.mv x) ρ H κ = (κ (ρ x) H) := nrfl rfl
theorem i_pick {c : Operand} {a : Operand} {b : Operand} : isem P (.pick c a b) ρ H κ = (onBool (ρ c) fun t => κ (bif t then ρ a else ρ b) H) := nrfl rfl
theorem i_new {t : Nat} {z : List Value} : isem P (.new t z) ρ H κ = (κ (.pointer (some ⟨H.size, 0, none⟩)) (H.push (.cells z.toArray t))) := nrfl rfl
theorem i_box {t : Nat} {x : Operand} : isem P (.box t x) ρ H κ = (κ (.pointer (some ⟨H.size, 0, none⟩)) (H.push (.cells (ρ x).cells t))) := nrfl rfl
theorem i_bld {z : List Value} {ps : List (Nat × Nat × Operand)} : isem P (.bld z ps) ρ H κ = (onSome (fillL z (ps.map fun p => (p.1, p.2.1, ρ p.2.2))) fun l => κ (.agg l.toArray) H) := nrfl rfl
theorem i_bsl {t : Nat} {len : Nat} {z : List Value} {ps : List (Nat × Nat × Operand)} : isem P (.bsl t len z ps) ρ H κ = (onSome (fillL z (ps.map fun p => (p.1, p.2.1, ρ p.2.2))) fun l => κ (.slice (some ⟨H.size, 0, none⟩) len len) (H.push (.cells l.toArray t))) := nrfl rfl
theorem i_ld {x : Operand} : isem P (.ld x) ρ H κ = (onPtr (ρ x) fun b o => onSome (cell H b o) fun v => κ v H) := nrfl rfl
theorem i_ldn {n : Nat} {x : Operand} : isem P (.ldn n x) ρ H κ = (onPtr (ρ x) fun b o => onSome (rdn H b o n) fun l => κ (.agg l.toArray) H) := nrfl rfl
theorem i_st {n : Nat} {a : Operand} {v : Operand} : isem P (.st n a v) ρ H κ = (onPtr (ρ a) fun b o => (ρ v).cells.size = n ∧ onSome (wrn H b o (ρ v).cells.toList) fun H' => κ undef H') := nrfl rfl
theorem i_nck {x : Operand} : isem P (.nck x) ρ H κ = (onPtr (ρ x) fun b o => κ (.pointer (some ⟨b, o, none⟩)) H) := nrfl rfl
theorem i_bin {op : BinOp} {x : Operand} {y : Operand} : isem P (.bin op x y) ρ H κ = (onSome (binV op (ρ x) (ρ y)) fun v => κ v H) := nrfl rfl
theorem i_eqb {neg : Bool} {x : Operand} {y : Operand} : isem P (.eqb neg x y) ρ H κ = (onBool (ρ x) fun a => onBool (ρ y) fun b => κ (.bool (bif neg then !decide (a = b) else decide (a = b))) H) := nrfl rfl
theorem i_eqz {nk : NK} {neg : Bool} {x : Operand} {y : Operand} : isem P (.eqz nk neg x y) ρ H κ = (onSome (nilV nk (ρ x) (ρ y)) fun a => κ (.bool (bif neg then !a else a)) H) := nrfl rfl
theorem i_eqs {lk : List LK} {neg : Bool} {x : Operand} {y : Operand} : isem P (.eqs lk neg x y) ρ H κ = (onSome (match ρ x, ρ y with | .agg a, .agg b => leavesEq lk a.toList b.toList | _, _ => none) fun a => κ (.bool (bif neg then !a else a)) H) := nrfl rfl
theorem i_un {op : UnOp} {x : Operand} : isem P (.un op x) ρ H κ = (onSome (unV op (ρ x)) fun v => κ v H) := nrfl rfl
theorem i_cvi {k : IntKind} {x : Operand} : isem P (.cvi k x) ρ H κ = (onInt (ρ x) fun n => κ (.int k (k.wrap n)) H) := nrfl rfl
theorem i_cvs {x : Operand} : isem P (.cvs x) ρ H κ = (onStr (ρ x) fun s => κ (.string s) H) := nrfl rfl
theorem i_cbs {x : Operand} : isem P (.cbs x) ρ H κ = (onSlice (ρ x) fun a n _ => match a with
  | none => κ (.string .empty) H
  | some a => a.spot = none ∧ onSome (rdn H a.block a.off n) fun l => onSome (bytesOfCells l) fun bs => κ (.string ⟨bs.toArray⟩) H) := nrfl rfl
theorem i_cbk {x : Operand} : isem P (.cbs x) ρ H κ = onSlice (ρ x) fun a n _ => @cbsK H a n ⟨κ⟩ := nrfl rfl
theorem i_csb {t : Nat} {x : Operand} : isem P (.csb t x) ρ H κ = (onStr (ρ x) fun s => ∀ c : Nat, s.size ≤ c → κ (.slice (some ⟨H.size, 0, none⟩) s.size c) (H.push (.cells (cellsOfBytes s.data.toList ++ List.replicate (c - s.size) (Value.int .u8 0)).toArray t (c, c + 1)))) := nrfl rfl
theorem i_csk {t : Nat} {x : Operand} : isem P (.csb t x) ρ H κ = onStr (ρ x) fun s => @csbK H t s ⟨κ⟩ := nrfl rfl
theorem i_sl {k : Nat} {x : Operand} {lo : Option Operand} {hi : Option Operand} {mx : Option Operand} : isem P (.sl k x lo hi mx) ρ H κ = (onSlice (ρ x) fun a n c => onSome (bounds3 n c (lo.map ρ) (hi.map ρ) (mx.map ρ)) fun r =>
   Pl a (r.2.2 = r.1) ∧ κ (.slice (if r.2.2 = r.1 then a else a.map fun p => ⟨p.block, p.off + r.1 * k, none⟩) (r.2.1 - r.1) (r.2.2 - r.1)) H) := nrfl rfl
theorem i_sls {x : Operand} {lo : Option Operand} {hi : Option Operand} : isem P (.sls x lo hi) ρ H κ = (onStr (ρ x) fun s => onSome (bounds3 s.size s.size (lo.map ρ) (hi.map ρ) none) fun r => κ (.string (s.extract r.1 r.2.1)) H) := nrfl rfl
theorem i_fa {off : Nat} {x : Operand} : isem P (.fa off x) ρ H κ = (onPtr (ρ x) fun b o => κ (.pointer (some ⟨b, o + off, none⟩)) H) := nrfl rfl
theorem i_fld {n : Option Nat} {off : Nat} {x : Operand} : isem P (.fld n off x) ρ H κ = (match n with
  | some n => match ρ x with | .agg cs => κ (.agg (cs.extract off (off + n))) H | _ => False
  | none => match ρ x with | .agg cs => onSome cs[off]? fun v => κ v H | _ => False) := nrfl rfl
theorem i_ia {k : Nat} {x : Operand} {i : Operand} : isem P (.ia k x i) ρ H κ = (onSlice (ρ x) fun a n _ => onInt (ρ i) fun j => (0 ≤ j ∧ j < n) ∧ onSome a fun p => p.spot = none ∧ κ (.pointer (some ⟨p.block, p.off + j.toNat * k, none⟩)) H) := nrfl rfl
theorem i_ixs {x : Operand} {i : Operand} : isem P (.ixs x i) ρ H κ = (onStr (ρ x) fun s => onInt (ρ i) fun j => 0 ≤ j ∧ onSome s.data[j.toNat]? fun b => κ (.int .u8 b.toNat) H) := nrfl rfl
theorem i_ext {n : Nat} {x : Operand} : isem P (.ext n x) ρ H κ = (match ρ x with | .tuple vs => onSome vs[n]? fun v => κ v H | _ => False) := nrfl rfl
theorem i_len {x : Operand} : isem P (.len x) ρ H κ = (onSlice (ρ x) fun _ n _ => κ (.int .i64 n) H) := nrfl rfl
theorem i_slen {x : Operand} : isem P (.slen x) ρ H κ = (onStr (ρ x) fun s => κ (.int .i64 s.size) H) := nrfl rfl
theorem i_cap {x : Operand} : isem P (.cap x) ρ H κ = (onSlice (ρ x) fun _ _ n => κ (.int .i64 n) H) := nrfl rfl
theorem i_mlen {x : Operand} : isem P (.mlen x) ρ H κ = (match ρ x with
  | .map (some r) => match H[r]? with | some (.map es _) => κ (.int .i64 es.size) H | _ => False
  | .map none => κ (.int .i64 0) H
  | _ => False) := nrfl rfl
theorem i_app {t : Nat} {k : Nat} {bytes : Nat} {z : List Value} {x : Operand} {y : Operand} : isem P (.app t k bytes z x y) ρ H κ = (onSlice (ρ x) fun a n c => onSome (appSrc H k (ρ y)) fun r => @appK H t k bytes z a n c r.1 r.2 ⟨κ⟩) := nrfl rfl
theorem i_apz {t : Nat} {k : Nat} {bytes : Nat} {z : List Value} {x : Operand} {y : Operand} : isem P (.apz t k bytes z x y) ρ H κ = (onSlice (ρ x) fun a n c => onInt (ρ y) fun l => (0 ≤ l ∧ n + l < 2 ^ 62 ∧ l * bytes ≤ 2 ^ 48) ∧ appS H κ t k bytes z a n c l.toNat (zerosL z l.toNat)) := nrfl rfl
theorem i_iaa {n : Nat} {k : Nat} {x : Operand} {i : Operand} : isem P (.iaa n k x i) ρ H κ = (onPtr (ρ x) fun b o => onInt (ρ i) fun j => (0 ≤ j ∧ j < n) ∧ κ (.pointer (some ⟨b, o + j.toNat * k, none⟩)) H) := nrfl rfl
theorem i_cpy {k : Nat} {x : Operand} {y : Operand} : isem P (.cpy k x y) ρ H κ = (onSlice (ρ x) fun a n _ => onSome (cpySrc H k n (ρ y)) fun r => cpyS H κ a r.1 r.2) := nrfl rfl
theorem i_call {g : Nat} {as : List Operand} : isem P (.call g as) ρ H κ = @callK P g (as.map ρ) H ⟨κ⟩ := nrfl rfl
theorem i_callv {x : Operand} {as : List Operand} : isem P (.callv x as) ρ H κ = (match ρ x with
  | .func (.func g) first captured => @callK P g (first.toList ++ as.map ρ ++ captured.toList) H ⟨κ⟩
  | _ => False) := nrfl rfl
theorem i_mkf {f : Nat} {caps : List Operand} : isem P (.mkf f caps) ρ H κ = (κ (.func (.func f) #[] (caps.map ρ).toArray) H) := nrfl rfl
theorem i_mkm : isem P (.mkm) ρ H κ = (κ (.map (some H.size)) (H.push (.map #[] 0))) := nrfl rfl
theorem i_mup {kk : KK} {m : Operand} {k : Operand} {v : Operand} : isem P (.mup kk m k v) ρ H κ = (match ρ m with
  | .map (some r) => key? kk (ρ k) = true ∧ match H[r]? with
   | some (.map es clock) => (∀ e ∈ es, key? kk e.key = true) ∧ (match findE (ρ k) es.toList 0 with
    | some (i, _) => κ undef (H.setIfInBounds r (.map (es.modify i fun e => { e with key := ρ k, val := ρ v }) clock))
    | none => κ undef (H.setIfInBounds r (.map (es.push { key := ρ k, val := ρ v, born := clock }) (clock + 1))))
   | _ => False
  | _ => False) := nrfl rfl
theorem i_mlk {kk : KK} {zero : Value} {ok : Bool} {m : Operand} {k : Operand} : isem P (.mlk kk zero ok m k) ρ H κ = (
   key? kk (ρ k) = true ∧ match ρ m with
   | .map none => κ (lookV zero ok none) H
   | .map (some r) => match H[r]? with
    | some (.map es _) => (∀ e ∈ es, key? kk e.key = true) ∧ κ (lookV zero ok (findE (ρ k) es.toList 0)) H
    | _ => False
   | _ => False) := nrfl rfl
theorem i_mks {t : Nat} {k : Nat} {bytes : Nat} {z : List Value} {l : Operand} {c : Operand} : isem P (.mks t k bytes z l c) ρ H κ = (onInt (ρ l) fun a => onInt (ρ c) fun b => 0 ≤ a ∧ a ≤ b ∧ b < 2 ^ 62 ∧ bytes * b ≤ 2 ^ 48 ∧ κ (.slice (some ⟨H.size, 0, none⟩) a.toNat b.toNat) (H.push (.cells (zerosL z b.toNat).toArray t))) := nrfl rfl
theorem i_mx {xs : List Operand} : isem P (.mx xs) ρ H κ = (onSome (maxI (xs.map ρ)) fun v => κ v H) := nrfl rfl
theorem i_mn {xs : List Operand} : isem P (.mn xs) ρ H κ = (onSome (minI (xs.map ρ)) fun v => κ v H) := nrfl rfl
theorem i_clr {k : Nat} {z : List Value} {x : Operand} : isem P (.clr k z x) ρ H κ = (match ρ x with
  | .slice none _ _ => κ (.tuple #[]) H
  | .slice (some p) n _ => p.spot = none ∧ onSome (wrn H p.block p.off (zerosL z n)) fun H' => κ (.tuple #[]) H'
  | _ => False) := nrfl rfl
theorem m_ptr (v : Value) (k : Nat → Nat → Prop) : onPtr v k = match v with | .pointer (some ⟨b, o, none⟩) => k b o | _ => False := nrfl rfl
theorem m_bool (v : Value) (k : Bool → Prop) : onBool v k = match v with | .bool b => k b | _ => False := nrfl rfl
theorem m_some {α : Type} (x : Option α) (k : α → Prop) : onSome x k = match x with | some v => k v | none => False := nrfl rfl
theorem m_slice (v : Value) (k : Option Addr → Nat → Nat → Prop) : onSlice v k = match v with | .slice a n c => k a n c | _ => False := nrfl rfl
theorem m_int (v : Value) (k : Int → Prop) : onInt v k = match v with | .int _ n => k n | _ => False := nrfl rfl
theorem m_str (v : Value) (k : ByteArray → Prop) : onStr v k = match v with | .string s => k s | _ => False := nrfl rfl
theorem m_g (v : Value) (b : Bool) (A B : Prop) : onG v b A B = match v with | .bool c => if c = b then A else B | _ => B := nrfl rfl
/-! Regions whose order is open. -/
theorem l_nil : lwp P S [] f H K = K f H := nrfl rfl
theorem l_f {o : O} {l : List (Bool × O)} : lwp P S ((false, o) :: l) f H K = owpS P S o f H fun f' H' => lwp P S l f' H' K := by
 simp only [lwp, Bool.false_eq_true, false_implies, true_and]
theorem l_t {o : O} {l : List (Bool × O)} : lwp P S ((true, o) :: l) f H K = owpS P S o f H fun f' H' => KeepOn S H H' ∧ lwp P S l f' H' K := by
 simp only [lwp, true_implies]
theorem o_s {d : Nat} {i : I} : owpS P S (.s d i) f H K = isemS P S i (ev f) H fun v H' => K (upd f d v) H' := nrfl rfl
theorem o_e {i : I} : owpS P S (.e i) f H K = isemS P S i (ev f) H fun _ H' => K f H' := nrfl rfl
theorem o_g {d t : Nat} {b : Bool} {i : I} : owpS P S (.g d t b i) f H K = @gv (f t) b ⟨isemS P S i (ev f) H fun v H' => K (upd f d v) H', K (upd f d undef) H⟩ := nrfl rfl
theorem o_ge {t : Nat} {b : Bool} {i : I} : owpS P S (.ge t b i) f H K = @gv (f t) b ⟨isemS P S i (ev f) H fun _ H' => K f H', K f H⟩ := nrfl rfl
theorem k_ld {x : Operand} : isemS P S (.ld x) ρ H κ = onPtr (ρ x) fun b o => S b ∧ onSome (cell H b o) fun v => κ v H := nrfl rfl
theorem k_ldn {n : Nat} {x : Operand} : isemS P S (.ldn n x) ρ H κ = onPtr (ρ x) fun b o => S b ∧ onSome (rdn H b o n) fun l => κ (.agg l.toArray) H := nrfl rfl
end

/-! Regions in which blocks are made. -/
section
variable {P : Program} {S : Nat → Prop} {f : Fr} {H : Hp} {K : Fr → Hp → Prop}
theorem a_nil {n0 : Nat} {F A : Nat → Prop} : awl P S n0 [] F A f H K = K f H := nrfl rfl
theorem a_st {n0 : Nat} {F A : Nat → Prop} {o : O} {l : List (Kd × O)} : awl P S n0 ((.st, o) :: l) F A f H K = owpS P S o f H fun f' H' => awl P S n0 l F A f' H' K := nrfl rfl
theorem a_new {n0 : Nat} {F A : Nat → Prop} {d t : Nat} {z : List Value} {l : List (Kd × O)} : awl P S n0 ((.al, .s d (.new t z)) :: l) F A f H K = @alK n0 F A H z.toArray t ⟨fun b H' => awl P S n0 l F (fun x => A x ∨ x = b) (upd f d (.pointer (some ⟨b, 0, none⟩))) H' K⟩ := nrfl rfl
theorem a_box {n0 : Nat} {F A : Nat → Prop} {d t : Nat} {x : Operand} {l : List (Kd × O)} : awl P S n0 ((.al, .s d (.box t x)) :: l) F A f H K = @alK n0 F A H (ev f x).cells t ⟨fun b H' => awl P S n0 l F (fun x => A x ∨ x = b) (upd f d (.pointer (some ⟨b, 0, none⟩))) H' K⟩ := nrfl rfl
theorem a_bsl {n0 : Nat} {F A : Nat → Prop} {d t len : Nat} {z : List Value} {ps : List (Nat × Nat × Operand)} {l : List (Kd × O)} : awl P S n0 ((.al, .s d (.bsl t len z ps)) :: l) F A f H K = onSome (fillL z (ps.map fun p => (p.1, p.2.1, ev f p.2.2))) fun c => @alK n0 F A H c.toArray t ⟨fun b H' => awl P S n0 l F (fun x => A x ∨ x = b) (upd f d (.slice (some ⟨b, 0, none⟩) len len)) H' K⟩ := by
 simp only [awl, allocOf]
 cases fillL z (ps.map fun p => (p.1, p.2.1, ev f p.2.2)) <;> rfl
theorem a_ac {n0 : Nat} {F A : Nat → Prop} {o : O} {pre : List O} {l : List (Kd × O)} : awl P S n0 ((.ac pre, o) :: l) F A f H K = (preOk f pre ∧ @acK H ⟨fun H1 => owp P o f H1 fun f' H2 => acP S F A H1 H2 fun F' => awl P S n0 l F' A f' H2 K⟩) := nrfl rfl
theorem a_ft {n0 : Nat} {F A : Nat → Prop} {o : O} {l : List (Kd × O)} : awl P S n0 ((.fi true, o) :: l) F A f H K = owp P o f H fun f' H2 => KeepOn S H H2 ∧ awl P S n0 l F A f' H2 K := by simp only [awl, forall_const]
theorem a_ff {n0 : Nat} {F A : Nat → Prop} {o : O} {l : List (Kd × O)} : awl P S n0 ((.fi false, o) :: l) F A f H K = owp P o f H fun f' H2 => awl P S n0 l F A f' H2 K := by simp [awl]
theorem p_nil : preOk f [] = True := nrfl rfl
theorem p_new {d t : Nat} {z : List Value} {l : List O} : preOk f (.s d (.new t z) :: l) = preOk f l := by simp [preOk, alOk, allocOf]
theorem p_box {d t : Nat} {x : Operand} {l : List O} : preOk f (.s d (.box t x) :: l) = preOk f l := by simp [preOk, alOk, allocOf]
theorem p_bsl {d t len : Nat} {z : List Value} {ps : List (Nat × Nat × Operand)} {l : List O} : preOk f (.s d (.bsl t len z ps) :: l) = ((fillL z (ps.map fun p => (p.1, p.2.1, ev f p.2.2))).isSome = true ∧ preOk f l) := by simp [preOk, alOk, allocOf]
end

/-! The order, found by a reckoning. -/
def greedy (l : DL) : Nat → List Nat → List Nat
 | 0, _ => []
 | n + 1, rem => match rem.find? (fun i => rdy l rem i && (match l[i]? with | some o => o.1.op.stab | none => false)) with
  | some i => i :: greedy l n (rem.erase i)
  | none => match rem.find? (rdy l rem) with
   | some i => i :: greedy l n (rem.erase i)
   | none => []
def mkL (l : DL) : List Nat → List Nat → List (Bool × O)
 | _, [] => []
 | prev, i :: ord => match l[i]? with
  | some o => match o.1.op.stab with
   | true => (false, o.1) :: mkL l (bif o.1.op.isLoad then i :: prev else prev) ord
   | false => (need l prev i, o.1) :: mkL l prev ord
  | none => mkL l prev ord
def linD (l : DL) : C :=
 let ord := greedy l l.length (List.range l.length)
 if ord.length = l.length ∧ (List.range l.length).isPerm ord = true ∧ ordOk l ord = true then
  let L := mkL l [] ord
  if L.all (fun x => !x.1) then .reg (L.map (·.2)) else .lin L
 else alcD l
def linC : C → C
 | .drw l => linD l
 | .seq a b => .seq (linC a) (linC b)
 | .cnd x a b => .cnd x (linC a) (linC b)
 | .blk id a => .blk id (linC a)
 | .loop a => .loop (linC a)
 | c => c
section
variable {P : Program}
theorem lwp_swp {S : Nat → Prop} {l : DL} {K : Fr → Hp → Prop} : ∀ (ord prev : List Nat) (f : Fr) (H : Hp), (∀ i ∈ ord, i < l.length) → lwp P S (mkL l prev ord) f H K → swp P S l prev ord f H K
 | [], _, _, _, _, h => h
 | i :: ord, prev, f, H, hb, h => by
  have hi : l[i]? = some (l[i]'(hb i (by simp))) := List.getElem?_eq_getElem (hb i (by simp))
  simp only [mkL, hi] at h
  simp only [swp, hi]
  have hb' : ∀ i ∈ ord, i < l.length := fun j hj => hb j (by simp [hj])
  split at h
  ·rename_i hs
   try simp only [hs]
   rw [l_f] at h
   exact owpS_mono (fun f' H' h' => lwp_swp ord _ f' H' hb' h') h
  ·rename_i hs
   try simp only [hs]
   simp only [lwp] at h
   exact owp_mono (fun f' H' h' => ⟨h'.1, lwp_swp ord _ f' H' hb' h'.2⟩) (owp_of_S h)
theorem isemS_of {i : I} {ρ : Operand → Value} {H : Hp} {κ : Value → Hp → Prop} (h : isem P i ρ H κ) : isemS P (fun _ => True) i ρ H κ := by
 unfold isemS
 split
 ·obtain ⟨b, o, e, h⟩ := onPtr_iff h; simp only [e, onPtr, true_and]; exact h
 ·obtain ⟨b, o, e, h⟩ := onPtr_iff h; simp only [e, onPtr, true_and]; exact h
 ·exact h
theorem owpS_of {o : O} {f : Fr} {H : Hp} {K : Fr → Hp → Prop} (h : owp P o f H K) : owpS P (fun _ => True) o f H K := by
 cases o <;> simp only [owp, owpS] at h ⊢
 ·exact isemS_of h
 ·exact isemS_of h
 ·unfold onG at h ⊢
  split
  ·rename_i c hc
   simp only [hc] at h
   split
   ·rename_i e; rw [if_pos e] at h; exact isemS_of h
   ·rename_i e; rw [if_neg e] at h; exact h
  ·rename_i hv
   split at h
   ·rename_i c hc; exact absurd hc (hv c)
   ·exact h
 ·unfold onG at h ⊢
  split
  ·rename_i c hc
   simp only [hc] at h
   split
   ·rename_i e; rw [if_pos e] at h; exact isemS_of h
   ·rename_i e; rw [if_neg e] at h; exact h
  ·rename_i hv
   split at h
   ·rename_i c hc; exact absurd hc (hv c)
   ·exact h
theorem lwp_of_rwp {K : Fr → Hp → Prop} : ∀ {L : List (Bool × O)} {f : Fr} {H : Hp}, L.all (fun x => !x.1) = true → rwp P (L.map (·.2)) f H K → lwp P (fun _ => True) L f H K
 | [], _, _, _, h => h
 | (b, o) :: L, f, H, hL, h => by
  simp only [List.all_cons, Bool.and_eq_true, Bool.not_eq_true'] at hL
  obtain ⟨rfl, hL⟩ := hL
  rw [l_f]
  exact owpS_mono (fun f' H' h' => lwp_of_rwp hL h') (owpS_of h)
theorem linD_sound {l : DL} {f : Fr} {H : Hp} {Q : Ex → Fr → Hp → Prop} (h : cwp P (linD l) f H Q) : cwp P (.drw l) f H Q := by
 unfold linD at h
 simp only at h
 split at h
 ·rename_i hc
  obtain ⟨h1, h2, h3⟩ := hc
  have hb : ∀ i ∈ greedy l l.length (List.range l.length), i < l.length := fun i hi => by
   have := (List.isPerm_iff.1 h2).mem_iff.2 hi
   simpa using this
  split at h
  ·rename_i ha
   exact drw_of (fun _ => True) _ h1 h2 h3 (lwp_swp _ _ _ _ hb (lwp_of_rwp ha h))
  ·obtain ⟨S, h⟩ := h
   exact drw_of S _ h1 h2 h3 (lwp_swp _ _ _ _ hb h)
 ·exact alcD_sound h
theorem linC_sound : ∀ {c : C} {f : Fr} {H : Hp} {Q : Ex → Fr → Hp → Prop}, cwp P (linC c) f H Q → cwp P c f H Q := by
 intro c
 induction c with
 | drw l => intro f H Q h; exact linD_sound h
 | seq a b iha ihb =>
  intro f H Q h
  refine iha (w_mono ?_ h)
  intro e f H h
  cases e with
  | normal => exact ihb h
  | exit id => exact h
  | ret => exact h
 | cnd x a b iha ihb =>
  intro f H Q h
  obtain ⟨t, ht, h⟩ := onBool_iff h
  simp only [cwp, ht, onBool]
  cases t
  ·exact ihb h
  ·exact iha h
 | blk id a ih => intro f H Q h; exact ih h
 | loop a ih =>
  intro f H Q h
  obtain ⟨J, h0, h⟩ := h
  exact ⟨J, h0, fun n f H hJ => ih (h n f H hJ)⟩
 | _ => intro f H Q h; exact h
def linF (F : FIR) : FIR := ⟨F.nt, linC F.code, F.res⟩
/-- THE RULE: a loaded function's call, by its text in the small language. -/
theorem clL_of (hmx : P.follows .mixedOrders = true) {k : Nat} {F : FIR} (hF : (compF P k).map linF = some F) {args : List Value} (ha : args.length ≤ F.nt) {H : Hp} {R : Value → Hp → Prop} (h : fwp P F args H R) : ClL P k args H R := by
 cases hc : compF P k with
 | none => simp [hc] at hF
 | some G =>
  simp [hc] at hF
  subst hF
  exact clL_of_fwp hmx hc ha (linC_sound h)
theorem cl_of (hmx : P.follows .mixedOrders = true) {k : Nat} {F : FIR} (hF : (compF P k).map linF = some F) {args : List Value} (ha : args.length ≤ F.nt) {H : Hp} {R : Value → Hp → Prop} (h : fwp P F args H R) : Cl P k args H R := .inl (clL_of hmx hF ha h)
end
end Go.WK
/-
 Small equations for the walks; how slices and structs lie in a heap.
-/
namespace Go.WK
open Go

/-! Operators. -/
theorem b_add {k : IntKind} {a b : Int} : binV .add (.int k a) (.int k b) = some (.int k (k.wrap (a + b))) := by simp [binV, intV]
theorem b_sub {k : IntKind} {a b : Int} : binV .sub (.int k a) (.int k b) = some (.int k (k.wrap (a - b))) := by simp [binV, intV]
theorem b_mul {k : IntKind} {a b : Int} : binV .mul (.int k a) (.int k b) = some (.int k (k.wrap (a * b))) := by simp [binV, intV]
theorem b_quo {k : IntKind} {a b : Int} (h : b ≠ 0) : binV .quo (.int k a) (.int k b) = some (.int k (k.wrap (a.tdiv b))) := by simp [binV, intV, h]
theorem b_rem {k : IntKind} {a b : Int} (h : b ≠ 0) : binV .rem (.int k a) (.int k b) = some (.int k (a.tmod b)) := by simp [binV, intV, h]
theorem b_lss {k : IntKind} {a b : Int} : binV .lss (.int k a) (.int k b) = some (.bool (decide (a < b))) := by simp [binV, intV]
theorem b_leq {k : IntKind} {a b : Int} : binV .leq (.int k a) (.int k b) = some (.bool (decide (a ≤ b))) := by simp [binV, intV]
theorem b_gtr {k : IntKind} {a b : Int} : binV .gtr (.int k a) (.int k b) = some (.bool (decide (b < a))) := by simp [binV, intV]
theorem b_geq {k : IntKind} {a b : Int} : binV .geq (.int k a) (.int k b) = some (.bool (decide (b ≤ a))) := by simp [binV, intV]
theorem b_eql {k : IntKind} {a b : Int} : binV .eql (.int k a) (.int k b) = some (.bool (decide (a = b))) := by simp [binV, intV]
theorem b_neq {k : IntKind} {a b : Int} : binV .neq (.int k a) (.int k b) = some (.bool (!decide (a = b))) := by simp [binV, intV]
theorem b_and {k : IntKind} {a b : Int} : binV .and (.int k a) (.int k b) = some (.int k (k.wrap (BitVec.ofInt k.bits a &&& BitVec.ofInt k.bits b).toNat)) := by simp [binV, intV]
theorem b_or {k : IntKind} {a b : Int} : binV .or (.int k a) (.int k b) = some (.int k (k.wrap (BitVec.ofInt k.bits a ||| BitVec.ofInt k.bits b).toNat)) := by simp [binV, intV]
theorem b_xor {k : IntKind} {a b : Int} : binV .xor (.int k a) (.int k b) = some (.int k (k.wrap (BitVec.ofInt k.bits a ^^^ BitVec.ofInt k.bits b).toNat)) := by simp [binV, intV]
theorem b_shl {k j : IntKind} {a b : Int} (h : 0 ≤ b) : binV .shl (.int k a) (.int j b) = some (.int k (k.wrap (a * 2 ^ (min b.toNat k.bits)))) := by simp [binV, shV]; omega
theorem b_shr {k j : IntKind} {a b : Int} (h : 0 ≤ b) : binV .shr (.int k a) (.int j b) = some (.int k (a.fdiv (2 ^ (min b.toNat k.bits)))) := by simp [binV, shV]; omega
theorem t_eql {x y : ByteArray} : binV .eql (.string x) (.string y) = some (.bool (decide (x = y))) := by simp [binV, strV]
theorem t_neq {x y : ByteArray} : binV .neq (.string x) (.string y) = some (.bool (!decide (x = y))) := by simp [binV, strV]
theorem t_lss {x y : ByteArray} : binV .lss (.string x) (.string y) = some (.bool (sless x y)) := by simp [binV, strV]
theorem t_leq {x y : ByteArray} : binV .leq (.string x) (.string y) = some (.bool (!sless y x)) := by simp [binV, strV]
theorem t_gtr {x y : ByteArray} : binV .gtr (.string x) (.string y) = some (.bool (sless y x)) := by simp [binV, strV]
theorem t_geq {x y : ByteArray} : binV .geq (.string x) (.string y) = some (.bool (!sless x y)) := by simp [binV, strV]
theorem u_not {b : Bool} : unV .not (.bool b) = some (.bool !b) := nrfl rfl
theorem u_neg {k : IntKind} {n : Int} : unV .neg (.int k n) = some (.int k (k.wrap (0 - n))) := nrfl rfl
theorem z_pn {b : Option Addr} : nilV .ptr (.pointer none) (.pointer b) = some b.isNone := nrfl rfl
theorem z_ps {a : Addr} : nilV .ptr (.pointer (some a)) (.pointer none) = some false := nrfl rfl
theorem z_sn {b : Option Addr} {n c m d : Nat} : nilV .sli (.slice none n c) (.slice b m d) = some b.isNone := nrfl rfl
theorem z_ss {a : Addr} {n c m d : Nat} : nilV .sli (.slice (some a) n c) (.slice none m d) = some false := nrfl rfl
theorem wr64 {x : Int} (h1 : -9223372036854775808 ≤ x) (h2 : x ≤ 9223372036854775807) : IntKind.i64.wrap x = x := by
 unfold IntKind.wrap; simp [IntKind.signed, IntKind.bits]; omega
theorem wr8 {x : Int} (h1 : 0 ≤ x) (h2 : x ≤ 255) : IntKind.u8.wrap x = x := by
 unfold IntKind.wrap; simp [IntKind.signed, IntKind.bits]; omega
theorem bd_ok {i : Int} {k : IntKind} {y : Nat} (h0 : 0 ≤ i) (h1 : i ≤ y) : bound (.int k i) y = some i.toNat := by simp [bound, h0, h1]
theorem b3_00 {n c : Nat} : bounds3 n c none none none = some (0, n, c) := nrfl rfl
theorem b3_10 {n c l : Nat} {v : Value} (h : bound v n = some l) : bounds3 n c (some v) none none = some (l, n, c) := by delta bounds3; simp only [h]
theorem b3_01 {n c h : Nat} {u : Value} (hu : bound u c = some h) : bounds3 n c none (some u) none = some (0, h, c) := by delta bounds3; simp only [hu]
theorem b3_11 {n c l h : Nat} {u v : Value} (hu : bound u c = some h) (hv : bound v h = some l) : bounds3 n c (some v) (some u) none = some (l, h, c) := by delta bounds3; simp only [hu, hv]
theorem b3_111 {n c l h m : Nat} {u v x : Value} (hx : bound x c = some m) (hu : bound u m = some h) (hv : bound v h = some l) : bounds3 n c (some v) (some u) (some x) = some (l, h, m) := by delta bounds3; simp only [hu, hv, hx]
theorem b3_011 {n c h m : Nat} {u x : Value} (hx : bound x c = some m) (hu : bound u m = some h) : bounds3 n c none (some u) (some x) = some (0, h, m) := by delta bounds3; simp only [hu, hx]

/-- n values in a row read so. -/
abbrev big : Nat := 140737488355328

/-- A slice of n elements of k cells each, whose cells are told by El; the elements' own block lies in S. -/
def SlP {α : Type} (S : Nat → Prop) (H : Hp) (k : Nat) (El : List Value → α → Prop) (v : Value) (l : List α) : Prop :=
 l.length ≤ big ∧ ((∃ a, v = .slice a 0 0 ∧ l = []) ∨ ∃ b o c, v = .slice (some ⟨b, o, none⟩) l.length c ∧ l.length ≤ c ∧
  ∀ i (hi : i < l.length), S b ∧ ∃ cs, rdn H b (o + i * k) k = some cs ∧ El cs l[i])
theorem SlP.mono {α : Type} {S S' : Nat → Prop} {H H' : Hp} {k : Nat} {El El' : List Value → α → Prop} {v : Value} {l : List α} (h : SlP S H k El v l) (hS : ∀ b, S b → S' b) (hk : ∀ b, S b → b < H.size → H'[b]? = H[b]?) (hE : ∀ cs a, a ∈ l → El cs a → El' cs a) : SlP S' H' k El' v l := by
 obtain ⟨h0, h⟩ := h
 refine ⟨h0, ?_⟩
 rcases h with h | ⟨b, o, c, e, hc, h⟩
 ·exact .inl h
 ·refine .inr ⟨b, o, c, e, hc, fun i hi => ?_⟩
  obtain ⟨hs, cs, h1, h2⟩ := h i hi
  refine ⟨hS b hs, cs, ?_, hE _ _ (List.getElem_mem _) h2⟩
  have hlt : k ≠ 0 → b < H.size := by
   intro hk0
   obtain ⟨m, rfl⟩ : ∃ m, k = m + 1 := ⟨k - 1, by omega⟩
   unfold rdn at h1
   cases hcell : cell H b (o + i * (m + 1)) with
   | none => simp [hcell] at h1
   | some v => exact cell_lt hcell
  by_cases hk0 : k = 0
  ·subst hk0; exact h1
  ·obtain ⟨g1, g2⟩ := rdn_spec h1
   refine rdn_of g1 fun j hj => ?_
   rw [cell_block (hk b hs (hlt hk0)), g2 j hj]
/-- A slice of a known length: nil, or some. -/
theorem SlP.form {α : Type} {S : Nat → Prop} {H : Hp} {k : Nat} {El : List Value → α → Prop} {v : Value} {l : List α} (h : SlP S H k El v l) : ∃ a c, v = .slice a l.length c ∧ l.length ≤ c ∧ (a = none → l = []) := by
 obtain ⟨h0, ⟨wa, rfl, rfl⟩ | ⟨b, o, c, rfl, hc, _⟩⟩ := h
 ·exact ⟨wa, 0, rfl, Nat.le_refl _, fun _ => rfl⟩
 ·exact ⟨_, c, rfl, hc, by simp⟩
theorem SlP.some {α : Type} {S : Nat → Prop} {H : Hp} {k : Nat} {El : List Value → α → Prop} {v : Value} {l : List α} (h : SlP S H k El v l) (hl : 0 < l.length) : ∃ b o c, v = .slice (some ⟨b, o, none⟩) l.length c ∧ l.length ≤ c ∧ S b ∧
  ∀ i (hi : i < l.length), ∃ cs, rdn H b (o + i * k) k = .some cs ∧ El cs l[i] := by
 obtain ⟨h0, ⟨wa, rfl, rfl⟩ | ⟨b, o, c, rfl, hc, h⟩⟩ := h
 ·simp at hl
 ·exact ⟨b, o, c, rfl, hc, (h 0 hl).1, fun i hi => (h i hi).2⟩

theorem SlP.open {α : Type} {S : Nat → Prop} {H : Hp} {k : Nat} {El : List Value → α → Prop} {v : Value} {l : List α} (h : SlP S H k El v l) : ∃ a c, v = .slice a l.length c ∧ l.length ≤ c ∧ l.length ≤ 140737488355328 ∧
  ∀ i (hi : i < l.length), ∃ b o, a = .some ⟨b, o, none⟩ ∧ S b ∧ ∃ cs, rdn H b (o + i * k) k = .some cs ∧ El cs l[i] := by
 obtain ⟨h0, ⟨wa, rfl, rfl⟩ | ⟨b, o, c, rfl, hc, h⟩⟩ := h
 ·exact ⟨wa, 0, rfl, Nat.le_refl _, h0, fun i hi => by simp at hi⟩
 ·exact ⟨_, c, rfl, hc, h0, fun i hi => ⟨b, o, rfl, (h i hi).1, (h i hi).2⟩⟩
theorem rdn1 {H : Hp} {b o : Nat} {x0 : Value} (h : rdn H b o 1 = some [x0]) : cell H b o = some x0 := (rdn_spec h).2 0 (by omega)
theorem rdn2 {H : Hp} {b o : Nat} {x0 x1 : Value} (h : rdn H b o 2 = some [x0, x1]) : cell H b o = some x0 ∧ cell H b (o + 1) = some x1 :=
 ⟨(rdn_spec h).2 0 (by omega), (rdn_spec h).2 1 (by omega)⟩
theorem rdn3 {H : Hp} {b o : Nat} {x0 x1 x2 : Value} (h : rdn H b o 3 = some [x0, x1, x2]) : cell H b o = some x0 ∧ cell H b (o + 1) = some x1 ∧ cell H b (o + 2) = some x2 :=
 ⟨(rdn_spec h).2 0 (by omega), (rdn_spec h).2 1 (by omega), (rdn_spec h).2 2 (by omega)⟩
theorem rdn4 {H : Hp} {b o : Nat} {x0 x1 x2 x3 : Value} (h : rdn H b o 4 = some [x0, x1, x2, x3]) : cell H b o = some x0 ∧ cell H b (o + 1) = some x1 ∧ cell H b (o + 2) = some x2 ∧ cell H b (o + 3) = some x3 :=
 ⟨(rdn_spec h).2 0 (by omega), (rdn_spec h).2 1 (by omega), (rdn_spec h).2 2 (by omega), (rdn_spec h).2 3 (by omega)⟩
theorem rdn7 {H : Hp} {b o : Nat} {x0 x1 x2 x3 x4 x5 x6 : Value} (h : rdn H b o 7 = some [x0, x1, x2, x3, x4, x5, x6]) :
  cell H b o = some x0 ∧ cell H b (o + 1) = some x1 ∧ cell H b (o + 2) = some x2 ∧ cell H b (o + 3) = some x3 ∧ cell H b (o + 4) = some x4 ∧ cell H b (o + 5) = some x5 ∧ cell H b (o + 6) = some x6 :=
 ⟨(rdn_spec h).2 0 (by omega), (rdn_spec h).2 1 (by omega), (rdn_spec h).2 2 (by omega), (rdn_spec h).2 3 (by omega), (rdn_spec h).2 4 (by omega), (rdn_spec h).2 5 (by omega), (rdn_spec h).2 6 (by omega)⟩
theorem nneg (n : Nat) : ((0 : Int) ≤ (n : Int)) = True := by simp
theorem lt_cast (a b : Nat) : ((a : Int) < (b : Int)) = (a < b) := by simp
theorem le_cast (a b : Nat) : ((a : Int) ≤ (b : Int)) = (a ≤ b) := by simp
theorem eq_cast (a b : Nat) : ((a : Int) = (b : Int)) = (a = b) := propext Int.ofNat_inj
theorem castS (n : Nat) : ((n : Int) + 1) = ((n + 1 : Nat) : Int) := nrfl rfl
theorem castA (a b : Nat) : ((a : Int) + (b : Int)) = ((a + b : Nat) : Int) := nrfl rfl
theorem cast0 : ((0 : Nat) : Int) = 0 := nrfl rfl
theorem resV1 {f : Fr} {H : Hp} {s : Nat} : resV [.t s] f H = some (f s) := nrfl rfl
theorem resV2 {f : Fr} {H : Hp} {s t : Nat} : resV [.t s, .t t] f H = some (.tuple #[f s, f t]) := nrfl rfl
theorem retQ_n {r : List RV} {R : Value → Hp → Prop} {f : Fr} {H : Hp} : retQ r R .normal f H = onSome (resV r f H) (fun v => R v H) := nrfl rfl
theorem retQ_r {r : List RV} {R : Value → Hp → Prop} {f : Fr} {H : Hp} : retQ r R .ret f H = onSome (resV r f H) (fun v => R v H) := nrfl rfl
theorem q_n {N : Fr → Hp → Prop} {Q : Ex → Fr → Hp → Prop} {f : Fr} {H : Hp} (h : N f H) : thenQ N Q .normal f H := h
theorem q_e {N : Fr → Hp → Prop} {Q : Ex → Fr → Hp → Prop} {i : Nat} {f : Fr} {H : Hp} (h : Q (.exit i) f H) : thenQ N Q (.exit i) f H := h
theorem q_r {N : Fr → Hp → Prop} {Q : Ex → Fr → Hp → Prop} {f : Fr} {H : Hp} (h : Q .ret f H) : thenQ N Q .ret f H := h
theorem bq_n {i : Nat} {Q : Ex → Fr → Hp → Prop} {f : Fr} {H : Hp} (h : Q .normal f H) : blkQ i Q .normal f H := h
theorem bq_e {i : Nat} {Q : Ex → Fr → Hp → Prop} {f : Fr} {H : Hp} (h : Q .normal f H) : blkQ i Q (.exit i) f H := by rw [blkQ_e, if_pos rfl]; exact h
theorem bq_o {i j : Nat} {Q : Ex → Fr → Hp → Prop} {f : Fr} {H : Hp} (hj : Nat.beq j i = false) (h : Q (.exit j) f H) : blkQ i Q (.exit j) f H := by rw [blkQ_e, if_neg (Nat.ne_of_beq_eq_false hj)]; exact h
theorem bq_r {i : Nat} {Q : Ex → Fr → Hp → Prop} {f : Fr} {H : Hp} (h : Q .ret f H) : blkQ i Q .ret f H := h
theorem os_some {α : Type} (v : α) (k : α → Prop) : onSome (some v) k = k v := nrfl rfl
theorem ret1 {s : Nat} {v : Value} {R : Value → Hp → Prop} {f : Fr} {H : Hp} (hv : f s = v) (h : R v H) : retQ [.t s] R .ret f H := by
 rw [retQ_r, resV1, hv]; exact h
theorem retG {r : List RV} {v : Value} {R : Value → Hp → Prop} {f : Fr} {H : Hp} (hv : resV r f H = some v) (h : R v H) : retQ r R .ret f H := by
 rw [retQ_r, hv]; exact h
theorem retN {r : List RV} {v : Value} {R : Value → Hp → Prop} {f : Fr} {H : Hp} (hv : resV r f H = some v) (h : R v H) : retQ r R .normal f H := by
 rw [retQ_n, hv]; exact h
theorem ret2 {s t : Nat} {v u : Value} {R : Value → Hp → Prop} {f : Fr} {H : Hp} (hv : f s = v) (hu : f t = u) (h : R (.tuple #[v, u]) H) : retQ [.t s, .t t] R .ret f H := by
 rw [retQ_r, resV2, hv, hu]; exact h

/-! Heaps that grow. -/
theorem Ext.refl (H : Hp) : Ext H H := ⟨Nat.le_refl _, fun _ _ => rfl⟩
theorem Ext.trans {A B C : Hp} (h : Ext A B) (k : Ext B C) : Ext A C := ⟨Nat.le_trans h.1 k.1, fun b hb => (k.2 b (Nat.lt_of_lt_of_le hb h.1)).trans (h.2 b hb)⟩
theorem Ext.push {A B : Hp} (h : Ext A B) (o : Obj) : Ext A (B.push o) :=
 ⟨by have := h.1; simp; omega, fun b hb => by rw [Array.getElem?_push, if_neg (by have := h.1; omega)]; exact h.2 b hb⟩
theorem putc_size (H : Hp) (b i : Nat) (v : Value) : (putc H b i v).size = H.size := by simp [putc]
theorem putc_ne {H : Hp} {b i c : Nat} {v : Value} (h : c ≠ b) : (putc H b i v)[c]? = H[c]? := by
 simp only [putc, Array.getElem?_modify]
 rw [if_neg (fun e => h e.symm)]
theorem Ext.putc {A B : Hp} (h : Ext A B) {b : Nat} (hb : A.size ≤ b) (i : Nat) (v : Value) : Ext A (Go.WK.putc B b i v) :=
 ⟨by rw [putc_size]; exact h.1, fun c hc => by rw [putc_ne (by omega)]; exact h.2 c hc⟩
theorem Ext.cell {A B : Hp} (h : Ext A B) (b i : Nat) (hb : b < A.size) : Go.WK.cell B b i = Go.WK.cell A b i := cell_block (h.2 b hb) i
theorem Ext.size {A B : Hp} (h : Ext A B) : A.size ≤ B.size := h.1
theorem Ext.on {A B : Hp} (h : Ext A B) (S : Nat → Prop) : KeepOn S A B := ⟨h.1, fun b hb _ => h.2 b hb⟩
theorem cell_push (H : Hp) (o : Obj) (b i : Nat) : cell (H.push o) b i = if b = H.size then (match o with | .cells c _ _ => c[i]? | _ => none) else cell H b i := by
 by_cases h : b = H.size
 ·subst h
  rw [if_pos rfl]
  unfold cell
  rw [Array.getElem?_push, if_pos rfl]
  cases o <;> rfl
 ·rw [if_neg h]
  unfold cell
  rw [Array.getElem?_push, if_neg h]
theorem frz_push (H : Hp) (o : Obj) (b i : Nat) : frz (H.push o) b i = if b = H.size then (match o with | .cells _ _ (lo, hi) => lo ≤ i && i < hi | _ => false) else frz H b i := by
 by_cases h : b = H.size
 ·subst h
  rw [if_pos rfl]
  unfold frz
  rw [Array.getElem?_push, if_pos rfl]
  cases o <;> rfl
 ·rw [if_neg h]
  unfold frz
  rw [Array.getElem?_push, if_neg h]
theorem putc_push (H : Hp) (o : Obj) (b i : Nat) (v : Value) : putc (H.push o) b i v = if b = H.size then H.push (match o with | .cells c t z => .cells (c.setIfInBounds i v) t z | x => x) else (putc H b i v).push o := by
 split
 ·rename_i h
  subst h
  unfold putc
  rw [modify_push]
  cases o <;> rfl
 ·rename_i h
  unfold putc
  apply Array.ext_getElem?
  intro j
  simp only [Array.getElem?_modify, Array.getElem?_push, Array.size_modify]
  by_cases hb : b = j
  ·subst hb; simp only [if_neg h, if_true]
  ·simp only [if_neg hb]
theorem getp (H : Hp) (o : Obj) (b : Nat) : (H.push o)[b]? = if b = H.size then some o else H[b]? := Array.getElem?_push
theorem eqF {a b : Nat} (h : a ≠ b) : (a = b) = False := by simp [h]
theorem frz0 (i : Nat) : (decide (0 ≤ i) && decide (i < 0)) = false := by simp
theorem rdn_0 (H : Hp) (b o : Nat) : rdn H b o 0 = some [] := nrfl rfl
theorem rdn_s (H : Hp) (b o n : Nat) : rdn H b o (n + 1) = match cell H b o with | some v => (rdn H b (o + 1) n).map (v :: ·) | none => none := nrfl rfl
theorem rd1 (H : Hp) (b o : Nat) : rdn H b o 1 = match cell H b o with | some v => some [v] | none => none := by
 rw [rdn_s]; cases cell H b o <;> rfl
theorem rd2 (H : Hp) (b o : Nat) : rdn H b o 2 = (match cell H b o with | some v0 => (match cell H b (o + 1) with | some v1 => some [v0, v1] | none => none) | none => none) := by
 simp only [rdn]
 try simp only [Nat.add_assoc, Nat.reduceAdd]
 cases cell H b o <;> (try rfl)
 cases cell H b (o + 1) <;> (try rfl)
theorem rd3 (H : Hp) (b o : Nat) : rdn H b o 3 = (match cell H b o with | some v0 => (match cell H b (o + 1) with | some v1 => (match cell H b (o + 2) with | some v2 => some [v0, v1, v2] | none => none) | none => none) | none => none) := by
 simp only [rdn]
 try simp only [Nat.add_assoc, Nat.reduceAdd]
 cases cell H b o <;> (try rfl)
 cases cell H b (o + 1) <;> (try rfl)
 cases cell H b (o + 2) <;> (try rfl)
theorem rd4 (H : Hp) (b o : Nat) : rdn H b o 4 = (match cell H b o with | some v0 => (match cell H b (o + 1) with | some v1 => (match cell H b (o + 2) with | some v2 => (match cell H b (o + 3) with | some v3 => some [v0, v1, v2, v3] | none => none) | none => none) | none => none) | none => none) := by
 simp only [rdn]
 try simp only [Nat.add_assoc, Nat.reduceAdd]
 cases cell H b o <;> (try rfl)
 cases cell H b (o + 1) <;> (try rfl)
 cases cell H b (o + 2) <;> (try rfl)
 cases cell H b (o + 3) <;> (try rfl)
theorem rd7 (H : Hp) (b o : Nat) : rdn H b o 7 = (match cell H b o with | some v0 => (match cell H b (o + 1) with | some v1 => (match cell H b (o + 2) with | some v2 => (match cell H b (o + 3) with | some v3 => (match cell H b (o + 4) with | some v4 => (match cell H b (o + 5) with | some v5 => (match cell H b (o + 6) with | some v6 => some [v0, v1, v2, v3, v4, v5, v6] | none => none) | none => none) | none => none) | none => none) | none => none) | none => none) | none => none) := by
 simp only [rdn]
 try simp only [Nat.add_assoc, Nat.reduceAdd]
 cases cell H b o <;> (try rfl)
 cases cell H b (o + 1) <;> (try rfl)
 cases cell H b (o + 2) <;> (try rfl)
 cases cell H b (o + 3) <;> (try rfl)
 cases cell H b (o + 4) <;> (try rfl)
 cases cell H b (o + 5) <;> (try rfl)
 cases cell H b (o + 6) <;> (try rfl)
theorem wr_0 (H : Hp) (b o : Nat) : wrn H b o [] = some H := nrfl rfl
theorem wr_s (H : Hp) (b o : Nat) (v : Value) (l : List Value) : wrn H b o (v :: l) = if (cell H b o).isSome && !frz H b o && v.oneCell' then wrn (putc H b o v) b (o + 1) l else none := nrfl rfl
/-- A call. -/
theorem w_call {P : Program} {g : Nat} {vs : List Value} {H : Hp} {κ R : Value → Hp → Prop} (hc : Cl P g vs H R) (h : ∀ v H', R v H' → κ v H') : @callK P g vs H ⟨κ⟩ := hc.mono h

/-! What is held. -/
structure Nm where
 client : Int
 num : Int
 deriving DecidableEq
structure Ac where
 kind : Int
 key : ByteArray
 value : ByteArray
 num : Int
 deriving DecidableEq
structure Rd where
 key : ByteArray
 is : Bool
 value : ByteArray
 deriving DecidableEq
structure Hd where
 key : ByteArray
 name : Nm
 acts : List Ac
 reads : List Rd
 put : Bool
 value : ByteArray
 deriving DecidableEq
def I64 (n : Int) : Prop := -9223372036854775808 ≤ n ∧ n ≤ 9223372036854775807
def Sz (s : ByteArray) : Prop := s.size ≤ big
def Nm.ok (n : Nm) : Prop := I64 n.client ∧ I64 n.num
def ElAc (cs : List Value) (a : Ac) : Prop := cs = [.int .u8 a.kind, .string a.key, .string a.value, .int .i64 a.num] ∧ (0 ≤ a.kind ∧ a.kind ≤ 255) ∧ I64 a.num ∧ Sz a.key ∧ Sz a.value
def ElRd (cs : List Value) (r : Rd) : Prop := cs = [.string r.key, .bool r.is, .string r.value] ∧ Sz r.key ∧ Sz r.value
def ElNm (cs : List Value) (n : Nm) : Prop := cs = [.int .i64 n.client, .int .i64 n.num] ∧ n.ok
def ElHd (S : Nat → Prop) (H : Hp) (cs : List Value) (h : Hd) : Prop := ∃ va vr, cs = [.string h.key, .int .i64 h.name.client, .int .i64 h.name.num, va, vr, .bool h.put, .string h.value] ∧
 SlP S H 4 ElAc va h.acts ∧ SlP S H 3 ElRd vr h.reads ∧ h.name.ok ∧ Sz h.key ∧ Sz h.value
def ElStr (cs : List Value) (s : ByteArray) : Prop := cs = [.string s] ∧ Sz s
def HdSl (S : Nat → Prop) (H : Hp) (v : Value) (l : List Hd) : Prop := SlP S H 7 (ElHd S H) v l
def StrSl (S : Nat → Prop) (H : Hp) (v : Value) (l : List ByteArray) : Prop := SlP S H 1 ElStr v l
def AcSl (S : Nat → Prop) (H : Hp) (v : Value) (l : List Ac) : Prop := SlP S H 4 ElAc v l
def RdSl (S : Nat → Prop) (H : Hp) (v : Value) (l : List Rd) : Prop := SlP S H 3 ElRd v l
theorem ElHd.mono {S S' : Nat → Prop} {H H' : Hp} {cs : List Value} {h : Hd} (hS : ∀ b, S b → S' b) (hk : ∀ b, S b → b < H.size → H'[b]? = H[b]?) (e : ElHd S H cs h) : ElHd S' H' cs h := by
 obtain ⟨va, vr, e, h1, h2, h3⟩ := e
 exact ⟨va, vr, e, h1.mono hS hk fun _ _ _ h => h, h2.mono hS hk fun _ _ _ h => h, h3⟩
theorem HdSl.mono {S S' : Nat → Prop} {H H' : Hp} {v : Value} {l : List Hd} (h : HdSl S H v l) (hS : ∀ b, S b → S' b) (hk : ∀ b, S b → b < H.size → H'[b]? = H[b]?) : HdSl S' H' v l :=
 SlP.mono h hS hk fun _ _ _ e => e.mono hS hk
/-! Bundles for simp. -/
theorem vc_agg {c : Array Value} : (Value.agg c).cells = c := nrfl rfl
theorem vc_int {k : IntKind} {n : Int} : (Value.int k n).cells = #[.int k n] := nrfl rfl
theorem vc_str {s : ByteArray} : (Value.string s).cells = #[.string s] := nrfl rfl
theorem vc_bool {b : Bool} : (Value.bool b).cells = #[.bool b] := nrfl rfl
theorem vc_ptr {a : Option Addr} : (Value.pointer a).cells = #[.pointer a] := nrfl rfl
theorem vc_sli {a : Option Addr} {n c : Nat} : (Value.slice a n c).cells = #[.slice a n c] := nrfl rfl
theorem vc_map {r : Option Nat} : (Value.map r).cells = #[.map r] := nrfl rfl
theorem vc_fn {g : Fn} {a b : Array Value} : (Value.func g a b).cells = #[.func g a b] := nrfl rfl
theorem vc_nf : (Value.nilFunc).cells = #[.nilFunc] := nrfl rfl
theorem vo_int {k : IntKind} {n : Int} : (Value.int k n).oneCell' = true := nrfl rfl
theorem vo_str {s : ByteArray} : (Value.string s).oneCell' = true := nrfl rfl
theorem vo_bool {b : Bool} : (Value.bool b).oneCell' = true := nrfl rfl
theorem vo_ptr {a : Option Addr} : (Value.pointer a).oneCell' = true := nrfl rfl
theorem vo_sli {a : Option Addr} {n c : Nat} : (Value.slice a n c).oneCell' = true := nrfl rfl
theorem vo_map {r : Option Nat} : (Value.map r).oneCell' = true := nrfl rfl
theorem vo_fn {g : Fn} {a b : Array Value} : (Value.func g a b).oneCell' = true := nrfl rfl
theorem vo_nf : (Value.nilFunc).oneCell' = true := nrfl rfl
theorem fl_0 {cs : List Value} : fillL cs [] = some cs := nrfl rfl
theorem fl_s {cs : List Value} {off size : Nat} {v : Value} {r : List (Nat × Nat × Value)} : fillL cs ((off, size, v) :: r) = if v.cells.size = size ∧ off + size ≤ cs.length then fillL (setL cs off v.cells.toList) r else none := nrfl rfl
theorem sl_0 {cs : List Value} {off : Nat} : setL cs off [] = cs := nrfl rfl
theorem sl_s {cs : List Value} {off : Nat} {v : Value} {l : List Value} : setL cs off (v :: l) = setL (cs.set off v) (off + 1) l := nrfl rfl
theorem bE {i : Nat} {Q : Ex → Fr → Hp → Prop} {f : Fr} {H : Hp} : blkQ i Q (.exit i) f H = Q .normal f H := by rw [blkQ_e, if_pos rfl]
theorem bO {i j : Nat} {Q : Ex → Fr → Hp → Prop} {f : Fr} {H : Hp} (hj : (j == i) = false) : blkQ i Q (.exit j) f H = Q (.exit j) f H := by rw [blkQ_e, if_neg (by simpa using hj)]
set_option linter.defProp false
def wD := (And.intro @r_nil (And.intro @r_s (And.intro @r_e (And.intro @r_g (And.intro @r_ge (And.intro @i_mv (And.intro @i_pick (And.intro @i_new (And.intro @i_box (And.intro @i_bld (And.intro @i_bsl (And.intro @i_ld (And.intro @i_ldn (And.intro @i_st (And.intro @i_nck (And.intro @i_bin (And.intro @i_eqb (And.intro @i_eqz (And.intro @i_eqs (And.intro @i_un (And.intro @i_cvi (And.intro @i_cvs (And.intro @i_sl (And.intro @i_sls (And.intro @i_fa (And.intro @i_fld (And.intro @i_ia (And.intro @i_iaa (And.intro @i_ixs (And.intro @i_ext (And.intro @i_len (And.intro @i_slen (And.intro @i_cap (And.intro @i_mkf (And.intro @i_call (And.intro @i_callv (And.intro @i_app (And.intro @i_mx (And.intro @i_mn (And.intro @m_ptr (And.intro @m_bool (And.intro @m_some (And.intro @m_slice (And.intro @m_int (And.intro @m_str (And.intro @m_g (And.intro @i_cbk @i_csk)))))))))))))))))))))))))))))))))))))))))))))))
def wU := (And.intro @pl_some (And.intro @pl_none (And.intro @gv_t (And.intro @gv_f (And.intro @gv_tf (And.intro @gv_ft (And.intro @gv_u (And.intro @ev_tmp (And.intro @ev_const (And.intro @ev_func (And.intro @ev_global (And.intro @upd_apply (And.intro @cond_true.{1} (And.intro @cond_false.{1} (And.intro @b_add (And.intro @b_sub (And.intro @b_mul (And.intro @b_quo (And.intro @b_rem (And.intro @b_lss (And.intro @b_leq (And.intro @b_gtr (And.intro @b_geq (And.intro @b_eql (And.intro @b_neq (And.intro @t_eql (And.intro @t_neq (And.intro @t_lss (And.intro @t_leq (And.intro @t_gtr (And.intro @t_geq (And.intro @u_not (And.intro @u_neg (And.intro @z_pn (And.intro @z_ps (And.intro @z_sn (And.intro @z_ss (And.intro @wr64 (And.intro @Option.isNone_none.{0} (And.intro @Option.isNone_some.{0} (And.intro @decide_true (And.intro @decide_false (And.intro @Bool.not_true (And.intro @Bool.not_false (And.intro @true_and (And.intro @and_true (And.intro @List.map_cons.{0, 0} (And.intro @List.map_nil.{0, 0} (And.intro @Option.map_some.{0, 0} (And.intro @Option.map_none.{0, 0} (And.intro @ne_eq.{1} (And.intro @not_false_eq_true (And.intro @Int.toNat_natCast (And.intro @eq_self.{1} (And.intro @nneg (And.intro @lt_cast (And.intro @le_cast (And.intro @eq_cast (And.intro @castS (And.intro @castA (And.intro @Nat.zero_mul (And.intro @Nat.zero_add (And.intro @cell_push (And.intro @frz_push (And.intro @putc_push (And.intro @putc_size (And.intro @Array.size_push.{0} (And.intro @eqF (And.intro @rd1 (And.intro @rd2 (And.intro @rd3 (And.intro @rd4 (And.intro @rd7 (And.intro @rdn_0 (And.intro @wr_0 (And.intro @wr_s (And.intro @List.getElem?_toArray.{0} (And.intro @List.getElem?_cons_zero.{0} (And.intro @List.getElem?_cons_succ.{0} (And.intro @List.setIfInBounds_toArray.{0} (And.intro @List.set_cons_zero.{0} (And.intro @List.set_cons_succ.{0} (And.intro @frz0 (And.intro @Nat.not_lt_zero (And.intro @Nat.zero_le (And.intro @Option.isSome_some.{0} (And.intro @Bool.and_true (And.intro @Bool.true_and (And.intro @Bool.and_false (And.intro @Bool.false_and (And.intro @List.size_toArray.{0} (And.intro @List.length_cons.{0} (And.intro @List.length_nil.{0} (And.intro @List.toList_toArray.{0} (And.intro @and_self (And.intro @Nat.le_refl (And.intro @Nat.add_zero (And.intro @if_true.{1} (And.intro @if_false.{1} (And.intro @b_and (And.intro @b_or (And.intro @b_shl (And.intro @b_shr (And.intro @vc_agg (And.intro @vc_int (And.intro @vc_str (And.intro @vc_bool (And.intro @vc_ptr (And.intro @vc_sli (And.intro @vc_map (And.intro @vc_fn (And.intro @vc_nf (And.intro @vo_int (And.intro @vo_str (And.intro @vo_bool (And.intro @vo_ptr (And.intro @vo_sli (And.intro @vo_map (And.intro @vo_fn (And.intro @vo_nf (And.intro @fl_0 (And.intro @fl_s (And.intro @sl_0 @sl_s)))))))))))))))))))))))))))))))))))))))))))))))))))))))))))))))))))))))))))))))))))))))))))))))))))))))))))))))))))))))))))
def wL := (And.intro @ev_tmp (And.intro @ev_const (And.intro @upd_apply (And.intro @cond_true.{1} @cond_false.{1}))))
def wQ := (And.intro @thenQ_n (And.intro @thenQ_e (And.intro @thenQ_r (And.intro @blkQ_n (And.intro @blkQ_r (And.intro @bE @bO))))))
theorem wt {P : Program} {f : Fr} {H : Hp} {Q : Ex → Fr → Hp → Prop} {a c : C} {x : Operand} (h : cwp P a f H Q) (hx : ev f x = .bool true := by simp only [wL, Nat.reduceBEq, Bool.not_true, Bool.not_false]) : cwp P (.cnd x a c) f H Q := w_true hx h
theorem wf {P : Program} {f : Fr} {H : Hp} {Q : Ex → Fr → Hp → Prop} {a c : C} {x : Operand} (h : cwp P c f H Q) (hx : ev f x = .bool false := by simp only [wL, Nat.reduceBEq, Bool.not_true, Bool.not_false]) : cwp P (.cnd x a c) f H Q := w_false hx h
theorem r1 {s : Nat} {v : Value} {R : Value → Hp → Prop} {f : Fr} {H : Hp} (h : R v H) (hv : f s = v := by ((try simp only [wL, Nat.reduceBEq]); rfl)) : retQ [.t s] R .ret f H := ret1 hv h
theorem r2 {s t : Nat} {v u : Value} {R : Value → Hp → Prop} {f : Fr} {H : Hp} (h : R (.tuple #[v, u]) H) (hv : f s = v := by ((try simp only [wL, Nat.reduceBEq]); rfl)) (hu : f t = u := by ((try simp only [wL, Nat.reduceBEq]); rfl)) : retQ [.t s, .t t] R .ret f H := ret2 hv hu h
end Go.WK
/-
 Writing many cells; what is owned.
-/
namespace Go.WK
open Go

theorem SlP.ext {α : Type} {S : Nat → Prop} {H H' : Hp} {k : Nat} {El : List Value → α → Prop} {v : Value} {l : List α} (h : SlP S H k El v l) (hE : Ext H H') : SlP S H' k El v l :=
 h.mono (fun _ h => h) (fun b _ hb => hE.2 b hb) (fun _ _ _ h => h)
theorem ElHd.ext {S : Nat → Prop} {H H' : Hp} {cs : List Value} {h : Hd} (e : ElHd S H cs h) (hE : Ext H H') : ElHd S H' cs h := e.mono (fun _ h => h) (fun b _ hb => hE.2 b hb)
theorem HdSl.ext {S : Nat → Prop} {H H' : Hp} {v : Value} {l : List Hd} (h : HdSl S H v l) (hE : Ext H H') : HdSl S H' v l := h.mono (fun _ h => h) (fun b _ hb => hE.2 b hb)
theorem rdn_ext {H H' : Hp} (hE : Ext H H') {b o k : Nat} {cs : List Value} (h : rdn H b o k = some cs) : rdn H' b o k = some cs := by
 cases k with
 | zero => exact h
 | succ k =>
  have hlt : b < H.size := by
   obtain ⟨g1, g2⟩ := rdn_spec h
   have h0 := g2 0 (by omega)
   rw [List.getElem?_eq_getElem (by omega)] at h0
   exact cell_lt h0
  obtain ⟨g1, g2⟩ := rdn_spec h
  refine rdn_of g1 fun j hj => ?_
  rw [cell_block (hE.2 b hlt), g2 j hj]

theorem cell_putc (H : Hp) (b o : Nat) (v : Value) (c k : Nat) : cell (putc H b o v) c k = if c = b ∧ k = o then (if (cell H b o).isSome then some v else none) else cell H c k := by
 unfold cell putc
 simp only [Array.getElem?_modify]
 by_cases hc : b = c
 ·subst hc
  rw [if_pos rfl]
  cases hb : H[b]? with
  | none => simp
  | some x =>
   cases x with
   | cells d t z =>
    simp only [Option.map_some, true_and, Array.getElem?_setIfInBounds]
    by_cases hk : k = o
    ·subst hk
     simp only [if_true]
     by_cases hl : k < d.size
     ·simp [hl]
     ·simp [hl]
    ·rw [if_neg (fun e => hk e.symm), if_neg hk]
   | _ => simp
 ·rw [if_neg hc, if_neg (fun e => hc e.1.symm)]
theorem frz_putc (H : Hp) (b o : Nat) (v : Value) (c k : Nat) : frz (putc H b o v) c k = frz H c k := by
 unfold frz putc
 simp only [Array.getElem?_modify]
 by_cases hc : b = c
 ·subst hc
  rw [if_pos rfl]
  cases hb : H[b]? with
  | none => simp
  | some x => cases x <;> simp
 ·rw [if_neg hc]

/-- Cells that may be written. -/
def Own (H : Hp) (b o n : Nat) : Prop := ∀ j, j < n → (cell H b (o + j)).isSome = true ∧ frz H b (o + j) = false
/-- What a writing leaves. -/
structure Wrote (H : Hp) (b o : Nat) (l : List Value) (H' : Hp) : Prop where
 size : H'.size = H.size
 other : ∀ c, c ≠ b → H'[c]? = H[c]?
 cell : ∀ k, cell H' b k = if o ≤ k ∧ k < o + l.length then l[k - o]? else cell H b k
 frz : ∀ c k, frz H' c k = frz H c k
theorem wrn_ok : ∀ {l : List Value} {H : Hp} {b o : Nat}, Own H b o l.length → (∀ v ∈ l, v.oneCell' = true) → ∃ H', wrn H b o l = some H' ∧ Wrote H b o l H'
 | [], H, b, o, _, _ => ⟨H, rfl, rfl, fun _ _ => rfl, fun k => by rw [if_neg]; simp, fun _ _ => rfl⟩
 | v :: l, H, b, o, h, h1 => by
  have h0 := h 0 (by simp)
  simp only [Nat.add_zero] at h0
  obtain ⟨H', hw, s, ot, ce, fz⟩ := @wrn_ok l (putc H b o v) b (o + 1) (fun j hj => by
   have := h (j + 1) (by simp; omega)
   rw [show o + (j + 1) = o + 1 + j by omega] at this
   rw [cell_putc, frz_putc, if_neg (by omega)]
   exact this) (fun v hv => h1 v (by simp [hv]))
  refine ⟨H', ?_, ?_, ?_, ?_, ?_⟩
  ·rw [wr_s, h0.1, h0.2, h1 v (by simp)]; exact hw
  ·rw [s, putc_size]
  ·intro c hc; rw [ot c hc, putc_ne hc]
  ·intro k
   rw [ce k, cell_putc]
   by_cases hk : k = o
   ·subst hk
    rw [if_neg (by omega), if_pos ⟨rfl, rfl⟩, h0.1, if_pos (by simp)]
    simp
   ·by_cases hr : o + 1 ≤ k ∧ k < o + 1 + l.length
    ·rw [if_pos hr, if_pos (by simp; omega)]
     rw [show k - o = (k - (o + 1)) + 1 by omega]; simp
    ·rw [if_neg hr, if_neg (fun e => hk e.2), if_neg (by simp; omega)]
  ·intro c k; rw [fz, frz_putc]
theorem Wrote.keep {H H' : Hp} {b o : Nat} {l : List Value} (h : Wrote H b o l H') {S : Nat → Prop} (hs : ¬ S b) : KeepOn S H H' :=
 ⟨by rw [h.size]; exact Nat.le_refl _, fun c _ hc => h.other c (fun e => hs (e ▸ hc))⟩
theorem Wrote.ext {A H H' : Hp} {b o : Nat} {l : List Value} (h : Wrote H b o l H') (hE : Ext A H) (hb : A.size ≤ b) : Ext A H' :=
 ⟨by rw [h.size]; exact hE.1, fun c hc => by rw [h.other c (by omega)]; exact hE.2 c hc⟩
theorem cell_none_of {H : Hp} {b o : Nat} (h : (cell H b o).isSome = true) : b < H.size := by
 cases hc : cell H b o with
 | none => simp [hc] at h
 | some v => exact cell_lt hc
theorem cell_other {H H' : Hp} {b o : Nat} {l : List Value} (h : Wrote H b o l H') {c : Nat} (hc : c ≠ b) (k : Nat) : cell H' c k = cell H c k := cell_block (h.other c hc) k
theorem rdn_cells {H : Hp} {b o n : Nat} (h : ∀ j, j < n → (cell H b (o + j)).isSome = true) : ∃ l, rdn H b o n = some l ∧ l.length = n := by
 induction n generalizing o with
 | zero => exact ⟨[], rfl, rfl⟩
 | succ n ih =>
  have h0 := h 0 (by omega)
  obtain ⟨l, hl, e⟩ := ih (o := o + 1) (fun j hj => by have := h (j + 1) (by omega); rwa [show o + (j + 1) = o + 1 + j by omega] at this)
  cases hc : cell H b o with
  | none => simp [hc] at h0
  | some v => exact ⟨v :: l, by simp [rdn, hc, hl], by simp [e]⟩
/-- A block just made. -/
theorem cell_new (H : Hp) (c : List Value) (t : Nat) (k : Nat) : cell (H.push (.cells c.toArray t)) H.size k = c[k]? := by
 rw [cell_push, if_pos rfl]; simp
theorem frz_new (H : Hp) (c : List Value) (t : Nat) (k : Nat) : frz (H.push (.cells c.toArray t)) H.size k = false := by
 rw [frz_push, if_pos rfl]; simp
theorem rdn_new (H : Hp) (c : List Value) (t o n : Nat) (h : o + n ≤ c.length) : rdn (H.push (.cells c.toArray t)) H.size o n = some ((c.drop o).take n) := by
 refine rdn_of (by simp; omega) fun j hj => ?_
 rw [cell_new]
 rw [List.getElem?_take, if_pos hj, List.getElem?_drop]
theorem Own_new (H : Hp) (c : List Value) (t : Nat) : Own (H.push (.cells c.toArray t)) H.size 0 c.length := by
 intro j hj
 rw [cell_new, frz_new, Nat.zero_add]
 exact ⟨by simp [hj], rfl⟩
end Go.WK
/-
 Regions whose order is open and where blocks are made: what holds whatever has been done.
-/
namespace Go.WK
open Go

abbrev DL' := List (O × List Nat)
def dstOf (l : DL') (i : Nat) : Option Nat := match l[i]? with | some o => o.1.dst | none => none
def slotOk (l : DL') (V : Nat → Value) (f : Fr) (j : Nat) : Prop := match dstOf l j with | some d => f d = V d | none => True
def isDst (l : DL') (d : Nat) : Bool := l.any fun o => o.1.dst == some d
def allIdx {α : Type} : List α → Nat → (Nat → α → Prop) → Prop
 | [], _, _ => True
 | a :: l, k, p => p k a ∧ allIdx l (k + 1) p
theorem allIdx_get {α : Type} {p : Nat → α → Prop} : ∀ {l : List α} {k : Nat}, allIdx l k p → ∀ i o, l[i]? = some o → p (k + i) o
 | [], _, _, i, o, h => by simp at h
 | a :: l, k, h, i, o, ho => by
  cases i with
  | zero => simp at ho; subst ho; exact h.1
  | succ i =>
   have := allIdx_get h.2 i o (by simpa using ho)
   rwa [show k + (i + 1) = k + 1 + i by omega]
def dsts (l : DL') : List Nat := l.filterMap fun o => o.1.dst
theorem dst_inj : ∀ {l : DL'}, (dsts l).Nodup → ∀ {i j d : Nat}, dstOf l i = some d → dstOf l j = some d → i = j
 | [], _, i, j, d, hi, _ => by simp [dstOf] at hi
 | o :: l, hn, i, j, d, hi, hj => by
  have mem : ∀ {l : DL'} {i d : Nat}, dstOf l i = some d → d ∈ dsts l := by
   intro l i d h
   unfold dstOf at h
   cases hl : l[i]? with
   | none => simp [hl] at h
   | some o => simp [hl] at h; exact List.mem_filterMap.2 ⟨o, List.mem_of_getElem? hl, h⟩
  cases i with
  | zero =>
   cases j with
   | zero => rfl
   | succ j =>
    have h0 : o.1.dst = some d := by simpa [dstOf] using hi
    have h1 : dstOf l j = some d := by simpa [dstOf] using hj
    have hd : dsts (o :: l) = d :: dsts l := by simp [dsts, h0]
    rw [hd, List.nodup_cons] at hn
    exact absurd (mem h1) hn.1
  | succ i =>
   cases j with
   | zero =>
    have h0 : o.1.dst = some d := by simpa [dstOf] using hj
    have h1 : dstOf l i = some d := by simpa [dstOf] using hi
    have hd : dsts (o :: l) = d :: dsts l := by simp [dsts, h0]
    rw [hd, List.nodup_cons] at hn
    exact absurd (mem h1) hn.1
   | succ j =>
    have h0 : dstOf l i = some d := by simpa [dstOf] using hi
    have h1 : dstOf l j = some d := by simpa [dstOf] using hj
    have hn' : (dsts l).Nodup := by
     cases h : o.1.dst with
     | none => simpa [dsts, h] using hn
     | some e =>
      have hd : dsts (o :: l) = e :: dsts l := by simp [dsts, h]
      rw [hd, List.nodup_cons] at hn
      exact hn.2
    rw [dst_inj hn' h0 h1]
theorem dwp_inv {P : Program} {l : DL'} (V : Nat → Value) (hp : List Nat → Hp → Prop) (f0 : Fr) (hn : (dsts l).Nodup)
  (step : allIdx l 0 fun i o => ∀ (rem : List Nat) (f : Fr) (H : Hp), rem.Nodup → i ∈ rem → (∀ j ∈ o.2, j ∉ rem) → (∀ j ∈ o.2, slotOk l V f j) → (∀ d, isDst l d = false → f d = f0 d) → hp rem H →
   owp P o.1 f H fun f' H' => (match o.1.dst with | some d => f' = upd f d (V d) | none => f' = f) ∧ hp (rem.erase i) H')
  {K : Fr → Hp → Prop} (fin : ∀ f H, (∀ j, slotOk l V f j) → (∀ d, isDst l d = false → f d = f0 d) → hp [] H → K f H) :
  ∀ (n : Nat) (rem : List Nat) (f : Fr) (H : Hp), rem.length = n → rem.Nodup → (∀ j, j ∉ rem → slotOk l V f j) → (∀ d, isDst l d = false → f d = f0 d) → hp rem H → dwp P l n rem f H K
 | 0, rem, f, H, hl, hnr, hs, hf, hh => by
  have : rem = [] := List.length_eq_zero_iff.1 hl
  subst this
  exact fin f H (fun j => hs j (by simp)) hf hh
 | n + 1, rem, f, H, hl, hnr, hs, hf, hh => by
  intro i o hi hr ho
  have hstep := allIdx_get step i o ho
  simp only [Nat.zero_add] at hstep
  have hr' : ∀ j ∈ o.2, j ∉ rem := by
   intro j hj
   simp only [rdy, ho, List.all_eq_true] at hr
   have := hr j hj
   simpa using this
  refine owp_mono ?_ (hstep rem f H hnr hi hr' (fun j hj => hs j (hr' j hj)) hf hh)
  rintro f' H' ⟨hf', hh'⟩
  refine dwp_inv V hp f0 hn step fin n (rem.erase i) f' H' ?_ (hnr.erase i) ?_ ?_ hh'
  ·rw [List.length_erase_of_mem hi, hl]; rfl
  ·intro j hj
   by_cases hji : j = i
   ·subst hji
    unfold slotOk
    have hd : dstOf l j = o.1.dst := by simp [dstOf, ho]
    rw [hd]
    cases hdst : o.1.dst with
    | none => trivial
    | some d =>
     rw [hdst] at hf'
     simp only at hf' ⊢
     subst hf'
     simp [upd]
   ·have hj' : j ∉ rem := fun h => hj ((List.mem_erase_of_ne hji).2 h)
    have := hs j hj'
    unfold slotOk at this ⊢
    cases hdj : dstOf l j with
    | none => trivial
    | some d =>
     rw [hdj] at this
     simp only at this ⊢
     cases hdst : o.1.dst with
     | none => rw [hdst] at hf'; simp only at hf'; subst hf'; exact this
     | some e =>
      rw [hdst] at hf'
      simp only at hf'
      subst hf'
      have hne : ¬ d = e := by
       intro e'
       subst e'
       exact hji (dst_inj hn hdj (by simp [dstOf, ho, hdst]))
      show (bif d == e then _ else _) = _
      rw [beq_false_of_ne hne]
      exact this
  ·intro d hd
   cases hdst : o.1.dst with
   | none => rw [hdst] at hf'; simp only at hf'; subst hf'; exact hf d hd
   | some e =>
    rw [hdst] at hf'
    simp only at hf'
    subst hf'
    have hne : ¬ d = e := by
     intro e'
     subst e'
     simp only [isDst, List.any_eq_false] at hd
     have := hd o (List.mem_of_getElem? ho)
     simp [hdst] at this
    show (bif d == e then _ else _) = _
    rw [beq_false_of_ne hne]
    exact hf d hd
theorem w_drw {P : Program} {l : DL'} (V : Nat → Value) (hp : List Nat → Hp → Prop) {b : C} {f : Fr} {H : Hp} {Q : Ex → Fr → Hp → Prop} (hn : (dsts l).Nodup)
  (step : allIdx l 0 fun i o => ∀ (rem : List Nat) (f' : Fr) (H : Hp), rem.Nodup → i ∈ rem → (∀ j ∈ o.2, j ∉ rem) → (∀ j ∈ o.2, slotOk l V f' j) → (∀ d, isDst l d = false → f' d = f d) → hp rem H →
   owp P o.1 f' H fun f'' H' => (match o.1.dst with | some d => f'' = upd f' d (V d) | none => f'' = f') ∧ hp (rem.erase i) H')
  (init : hp (List.range l.length) H) (fin : ∀ f' H, (∀ j, slotOk l V f' j) → (∀ d, isDst l d = false → f' d = f d) → hp [] H → cwp P b f' H Q) : cwp P (.seq (.drw l) b) f H Q := by
 refine w_seq ?_
 show dwp P l l.length (List.range l.length) f H _
 refine dwp_inv V hp f hn step (fun f' H h1 h2 h3 => fin f' H h1 h2 h3) _ _ f H (by simp) List.nodup_range ?_ (fun _ _ => rfl) init
 intro j hj
 simp only [List.mem_range] at hj
 unfold slotOk dstOf
 rw [List.getElem?_eq_none (by omega)]
 trivial

def slotD (ds : List (Option Nat)) (V : Nat → Value) (f : Fr) (j : Nat) : Prop := match ds[j]? with | some (some d) => f d = V d | _ => True
theorem slotD_of {l : DL'} {ds : List (Option Nat)} (h : l.map (fun o => o.1.dst) = ds) {V : Nat → Value} {f : Fr} {j : Nat} : slotOk l V f j → slotD ds V f j := by
 subst h
 unfold slotOk slotD dstOf
 rw [List.getElem?_map]
 cases l[j]? with
 | none => simp
 | some o => simp only [Option.map_some]; cases o.1.dst <;> simp
def vt : List (Nat × Value) → Nat → Value
 | [], _ => undef
 | p :: l, d => bif d == p.1 then p.2 else vt l d
theorem vt_nil (d : Nat) : vt [] d = undef := nrfl rfl
theorem vt_cons (k : Nat) (v : Value) (l : List (Nat × Value)) (d : Nat) : vt ((k, v) :: l) d = bif d == k then v else vt l d := nrfl rfl
theorem ow_s {P : Program} {f : Fr} {H : Hp} {K : Fr → Hp → Prop} {d : Nat} {i : I} : owp P (.s d i) f H K = isem P i (ev f) H fun v H' => K (upd f d v) H' := nrfl rfl
theorem ow_e {P : Program} {f : Fr} {H : Hp} {K : Fr → Hp → Prop} {i : I} : owp P (.e i) f H K = isem P i (ev f) H fun _ H' => K f H' := nrfl rfl
theorem ow_g {P : Program} {f : Fr} {H : Hp} {K : Fr → Hp → Prop} {d t : Nat} {b : Bool} {i : I} : owp P (.g d t b i) f H K = @gv (f t) b ⟨isem P i (ev f) H fun v H' => K (upd f d v) H', K (upd f d undef) H⟩ := nrfl rfl
theorem d_s {d : Nat} {i : I} : (O.s d i).dst = some d := nrfl rfl
theorem d_g {d t : Nat} {b : Bool} {i : I} : (O.g d t b i).dst = some d := nrfl rfl
theorem d_e {i : I} : (O.e i).dst = none := nrfl rfl
theorem d_ge {t : Nat} {b : Bool} {i : I} : (O.ge t b i).dst = none := nrfl rfl
/-- The rule: what holds of the heap, whatever has been done (hp), and what the slots become (V). -/
theorem w_drwD {P : Program} {l : DL'} (V : Nat → Value) (hp : List Nat → Hp → Prop) (ins : List Nat) {ds : List (Option Nat)} (hds : l.map (fun o => o.1.dst) = ds) {b : C} {f : Fr} {H : Hp} {Q : Ex → Fr → Hp → Prop}
  (hn : (dsts l).Nodup ∧ ∀ d ∈ ins, isDst l d = false)
  (step : allIdx l 0 fun i o => ∀ (rem : List Nat) (f' : Fr) (H : Hp), rem.Nodup → i ∈ rem → (∀ j ∈ o.2, j ∉ rem) → (∀ j ∈ o.2, slotD ds V f' j) → (∀ d ∈ ins, f' d = f d) → hp rem H →
   owp P o.1 f' H fun f'' H' => (match o.1.dst with | some d => f'' = upd f' d (V d) | none => f'' = f') ∧ hp (rem.erase i) H')
  (init : hp (List.range l.length) H) (fin : ∀ f' H, (∀ j, slotD ds V f' j) → (∀ d, isDst l d = false → f' d = f d) → hp [] H → cwp P b f' H Q) : cwp P (.seq (.drw l) b) f H Q := by
 have conv : ∀ {l' : DL'} {k : Nat} {p q : Nat → O × List Nat → Prop}, (∀ i o, p i o → q i o) → allIdx l' k p → allIdx l' k q := by
  intro l' k p q hpq h
  induction l' generalizing k with
  | nil => trivial
  | cons a l' ih => exact ⟨hpq _ _ h.1, ih h.2⟩
 refine w_drw V hp hn.1 (conv ?_ step) init ?_
 ·intro i o h rem f' H h1 h2 h3 h4 h5 h6
  exact h rem f' H h1 h2 h3 (fun j hj => slotD_of hds (h4 j hj)) (fun d hd => h5 d (hn.2 d hd)) h6
 ·intro f' H h1 h2 h3
  exact fin f' H (fun j => slotD_of hds (h1 j)) h2 h3

/-! Maps. -/
def mget (k : Value) (es : Array MapEntry) : Option Value := (findE k es.toList 0).map (·.2)
theorem findE_some {k : Value} : ∀ {l : List MapEntry} {i : Nat}, (findE k l i).map (·.2) = (l.find? fun e => keyEq k e.key).map (·.val)
 | [], _ => rfl
 | e :: l, i => by
  unfold findE
  rw [List.find?_cons]
  cases h : keyEq k e.key with
  | true => simp
  | false => simp only [Bool.false_eq_true, if_false]; exact findE_some
theorem mget_eq (k : Value) (es : Array MapEntry) : mget k es = (es.toList.find? fun e => keyEq k e.key).map (·.val) := findE_some
theorem mget_push (k : Value) (es : Array MapEntry) (e : MapEntry) : mget k (es.push e) = match mget k es with | some v => some v | none => if keyEq k e.key then some e.val else none := by
 rw [mget_eq, mget_eq, Array.toList_push, List.find?_append]
 cases h : es.toList.find? fun e => keyEq k e.key with
 | some v => rfl
 | none =>
  simp only [Option.none_or, Option.map_none, List.find?_cons, List.find?_nil]
  cases keyEq k e.key <;> rfl
theorem mget_none {k : Value} {es : Array MapEntry} : mget k es = none ↔ findE k es.toList 0 = none := by
 unfold mget; cases findE k es.toList 0 <;> simp
theorem mget_look {k : Value} {es : Array MapEntry} {zero : Value} {ok : Bool} : lookV zero ok (findE k es.toList 0) = match ok, mget k es with | true, some v => .tuple #[v, .bool true] | true, none => .tuple #[zero, .bool false] | false, some v => v | false, none => zero := by
 unfold mget lookV; cases ok <;> cases findE k es.toList 0 <;> rfl
theorem set_push (H : Hp) (x y : Obj) : (H.push x).setIfInBounds H.size y = H.push y := by
 apply Array.ext_getElem?
 intro i
 rw [Array.getElem?_setIfInBounds, Array.getElem?_push, Array.getElem?_push]
 by_cases h : H.size = i
 ·subst h; simp
 ·rw [if_neg h]
  by_cases h2 : i = H.size
  ·exact absurd h2.symm h
  ·rw [if_neg h2, if_neg h2]
/-- A map gets a new key. -/
theorem mup_new {P : Program} {kk : KK} {m k v : Operand} {ρ : Operand → Value} {H0 : Hp} {es : Array MapEntry} {ck : Nat} {κ : Value → Hp → Prop}
  (hm : ρ m = .map (some H0.size)) (hk : key? kk (ρ k) = true) (hes : ∀ e ∈ es, key? kk e.key = true) (hno : mget (ρ k) es = none)
  (h : κ undef (H0.push (.map (es.push { key := ρ k, val := ρ v, born := ck }) (ck + 1)))) : isem P (.mup kk m k v) ρ (H0.push (.map es ck)) κ := by
 simp only [isem, hm]
 refine ⟨hk, ?_⟩
 rw [Array.getElem?_push, if_pos rfl]
 simp only
 refine ⟨hes, ?_⟩
 rw [mget_none.1 hno]
 simp only
 rw [set_push]
 exact h
end Go.WK
