/-
  HoldsBytes: for every list of holds and every bytes in memory the function returns true, does not panic and leaves what was there; its condition is the one of its row. Part 2 of 14.
-/
import Derived.Test.YtcafflmhjgnehaaGreatDoorHoldsBytesQ0
import Derived.LaidEql
set_option linter.unusedSimpArgs false
set_option linter.unusedVariables false
set_option linter.defProp false
set_option maxRecDepth 100000
/-
 The translation of one operation of the loaded code into the small language, and that it is sound.
-/
namespace Go.WK
open Go

def zeroL (P : Program) (t : Nat) : Option (List Value) := (P.info? t).bind fun i => i.zero.map fun v => v.cells.toList
def szOf (P : Program) (t : Nat) : Option Nat := (P.info? t).map (·.size)
def byOf (P : Program) (t : Nat) : Option Nat := (P.info? t).map (·.bytes)
def scalar (P : Program) (t : Nat) : Bool := match P.underlying t with | some (.int _) | some .string | some .bool => true | _ => false
def aggT (P : Program) (t : Nat) : Option Bool := match P.underlying t with | some (.struct _) | some (.array ..) => some true | some _ => some false | none => none

def leavesGo (k : Nat → Option (List LK)) : List Field → List LK → Option (List LK)
 | [], acc => some acc
 | f :: fs, acc => if f.name ≠ "_" ∧ f.offset = acc.length then (k f.type).bind fun l => leavesGo k fs (acc ++ l) else none
/-- A struct's leaves lie one behind the other and are all plain. -/
def leavesK (P : Program) : Nat → Nat → Option (List LK)
 | 0, _ => none
 | d + 1, t =>
  match P.underlying t with
  | some (.int _) => if szOf P t = some 1 then some [.i] else none
  | some .string => if szOf P t = some 1 then some [.s] else none
  | some .bool => if szOf P t = some 1 then some [.b] else none
  | some (.struct fs) => if P.stoodInHeld t then none else (leavesGo (leavesK P d) fs.toList []).bind fun l => if szOf P t = some l.length then some l else none
  | _ => none

def partsOf (P : Program) (fields : Array Field) : List (Nat × Operand) → Option (List (Nat × Nat × Operand))
 | [] => some []
 | (i, x) :: l => match fields[i]? with
  | some f => match szOf P f.type, partsOf P fields l with
   | some s, some r => some ((f.offset, s, x) :: r)
   | _, _ => none
  | none => none

def compBuild (P : Program) (t : Nat) (parts : Array (Nat × Operand)) : Option I :=
 match zeroL P t, P.underlying t with
 | some z, some (.struct fields) => if fields.toList.all (fun f => (szOf P f.type).isSome) then (partsOf P fields parts.toList).map fun ps => .bld z ps else none
 | some z, some (.array _ elem) => match szOf P elem with
  | some s => some (.bld z (parts.toList.map fun p => (p.1 * s, s, p.2)))
  | none => none
 | _, _ => none
def compBuildSlice (P : Program) (t len : Nat) (parts : Array (Nat × Operand)) : Option I :=
 match P.underlying t with
 | some (.slice elem) => match szOf P elem, zeroL P elem with
  | some s, some z => if len * s ≤ 2 ^ 24 then some (.bsl elem len ((List.range (len * s)).map fun i => z.getD (i % z.length) default) (parts.toList.map fun p => (p.1 * s, s, p.2))) else none
  | _, _ => none
 | _ => none
def compLoad (P : Program) (t : Nat) (x : Operand) : Option I :=
 match aggT P t, szOf P t with
 | some true, some n => some (.ldn n x)
 | some false, _ => some (.ld x)
 | _, _ => none
def compBin (P : Program) (op : BinOp) (t : Nat) (x y : Operand) : Option I :=
 match P.underlying t, op with
 | some (.int _), op => some (.bin op x y)
 | some .string, op => some (.bin op x y)
 | some .bool, .eql => some (.eqb false x y)
 | some .bool, .neq => some (.eqb true x y)
 | some (.pointer _), .eql => some (.eqz .ptr false x y)
 | some (.slice _), .eql => some (.eqz .sli false x y)
 | some (.map ..), .eql => some (.eqz .map false x y)
 | some (.func ..), .eql => some (.eqz .fn false x y)
 | some (.pointer _), .neq => some (.eqz .ptr true x y)
 | some (.slice _), .neq => some (.eqz .sli true x y)
 | some (.map ..), .neq => some (.eqz .map true x y)
 | some (.func ..), .neq => some (.eqz .fn true x y)
 | some (.struct _), .eql => if P.eqGuardType P.depth t = false then (leavesK P 100 t).map fun l => .eqs l false x y else none
 | some (.struct _), .neq => if P.eqGuardType P.depth t = false then (leavesK P 100 t).map fun l => .eqs l true x y else none
 | _, _ => none
def compConv (P : Program) (src dst : Nat) (x : Operand) : Option I :=
 match P.underlying src, P.underlying dst with
 | some (.int _), some (.int k) => some (.cvi k x)
 | some .string, some .string => some (.cvs x)
 | some (.slice e), some .string => match P.underlying e with
  | some (.int .u8) => some (.cbs x)
  | _ => none
 | some .string, some (.slice e) => match P.underlying e with
  | some (.int .u8) => some (.csb e x)
  | _ => none
 | _, _ => none
def compSlice (P : Program) (t : Nat) (x : Operand) (lo hi mx : Option Operand) : Option I :=
 match P.underlying t, mx with
 | some .string, none => some (.sls x lo hi)
 | some (.slice e), mx => (szOf P e).map fun k => .sl k x lo hi mx
 | _, _ => none
def compFieldAddr (P : Program) (s : Nat) (x : Operand) (f : Nat) : Option I :=
 match P.underlying s with
 | some (.struct fields) => match fields[f]? with
  | some fl => match szOf P fl.type with
   | some (_ + 1) => some (.fa fl.offset x)
   | _ => none
  | none => none
 | _ => none
def compField (P : Program) (s : Nat) (x : Operand) (f : Nat) : Option I :=
 match P.underlying s with
 | some (.struct fields) => match fields[f]? with
  | some fl => match aggT P fl.type, szOf P fl.type with
   | some true, some n => some (.fld (some n) fl.offset x)
   | some false, _ => some (.fld none fl.offset x)
   | _, _ => none
  | none => none
 | _ => none
def compIndexAddr (P : Program) (t : Nat) (x i : Operand) : Option I :=
 match P.underlying t with
 | some (.slice e) => (szOf P e).map fun k => .ia k x i
 | some (.array n e) => (szOf P e).map fun k => .iaa n k x i
 | _ => none
def compIndex (P : Program) (t : Nat) (x i : Operand) : Option I :=
 match P.underlying t with
 | some .string => some (.ixs x i)
 | _ => none
def compMap (P : Program) (t : Nat) : Option (KK × Nat) :=
 match P.underlying t with
 | some (.map k e) => match P.underlying k with
  | some (.int q) => some (.i q, e)
  | some .string => some (.s, e)
  | some .bool => some (.b, e)
  | _ => none
 | _ => none
def compMakeSlice (P : Program) (t : Nat) (l c : Operand) : Option I :=
 match P.underlying t with
 | some (.slice e) => match szOf P e, byOf P e, zeroL P e with
  | some k, some b, some z => if z.length = k ∧ k ≠ 0 then some (.mks e k b z l c) else none
  | _, _, _ => none
 | _ => none
def compBuiltin (P : Program) (b : Builtin) (ts : List Nat) (xs : List Operand) : Option I :=
 match b, ts, xs with
 | .len, t :: _, x :: _ => match P.underlying t with
  | some .string => some (.slen x)
  | some (.slice _) => some (.len x)
  | some (.map ..) => some (.mlen x)
  | _ => none
 | .cap, t :: _, x :: _ => match P.underlying t with
  | some (.slice _) => some (.cap x)
  | _ => none
 | .append, [t, u], [x, y] => match P.underlying t, P.underlying u with
  | some (.slice e), some (.slice _) | some (.slice e), some .string => match szOf P e, byOf P e, zeroL P e with
   | some k, some b, some z => some (.app e k b z x y)
   | _, _, _ => none
  | some (.slice e), some (.int _) => match szOf P e, byOf P e, zeroL P e with
   | some k, some b, some z => if z.length = k ∧ k ≠ 0 ∧ b ≠ 0 then some (.apz e k b z x y) else none
   | _, _, _ => none
  | _, _ => none
 | .copy, t :: _, [x, y] => match P.underlying t with
  | some (.slice e) => (szOf P e).map fun k => .cpy k x y
  | _ => none
 | .max, _, xs => some (.mx xs)
 | .min, _, xs => some (.mn xs)
 | .clear, [t], [x] => match P.underlying t with
  | some (.slice e) => match szOf P e, zeroL P e with
   | some k, some z => some (.clr k z x)
   | _, _ => none
  | _ => none
 | _, _, _ => none
def compCall (P : Program) (c : Call) : Option I :=
 match c.callee with
 | .builtin b => compBuiltin P b c.argTypes.toList c.args.toList
 | .value (.func f) => some (.call f c.args.toList)
 | .value x => some (.callv x c.args.toList)
 | _ => none

def compI (P : Program) (op : Op) : Option I :=
 match op with
 | .move x => some (.mv x)
 | .assign x => some (.mv x)
 | .pick c a b => some (.pick c a b)
 | .alloc t => (zeroL P t).map fun z => .new t z
 | .box t x => some (.box t x)
 | .build t ps => compBuild P t ps
 | .buildSlice t len ps => compBuildSlice P t len ps
 | .load t x => compLoad P t x
 | .store t a v => (szOf P t).map fun n => .st n a v
 | .nilCheck x => some (.nck x)
 | .binOp op t x y _ => compBin P op t x y
 | .unOp op _ x => some (.un op x)
 | .convert s d x => compConv P s d x
 | .slice t x lo hi mx => compSlice P t x lo hi mx
 | .fieldAddr s x f => compFieldAddr P s x f
 | .field s x f => compField P s x f
 | .indexAddr t x i => compIndexAddr P t x i
 | .index t x i => compIndex P t x i
 | .extract x n => some (.ext n x)
 | .call c => compCall P c
 | .makeFunc (.func f) first caps => if first = #[] then some (.mkf f caps.toList) else none
 | .makeMap _ none => some .mkm
 | .mapUpdate t m k v | .insert t m k v => (compMap P t).map fun q => .mup q.1 m k v
 | .lookup t m k ok => (compMap P t).bind fun q => ((P.info? q.2).bind (·.zero)).map fun z => .mlk q.1 z ok m k
 | .makeSlice t l c => compMakeSlice P t l c
 | _ => none

/-! Soundness. -/


def opost (P : Program) (w : World) (κ : Value → Hp → Prop) : Result Next → Prop
 | .ok (.value v) w' => Same w w' ∧ κ v w'.heap
 | .ok .skip w' => Same w w' ∧ κ undef w'.heap
 | .ok (.enter f args) w' => Calls P f args w' fun e w'' => Same w w'' ∧ ∃ v, e = .returned v ∧ κ v w''.heap
 | _ => False

theorem run_und {P : Program} {t : Nat} {d : TypeDesc} (h : P.underlying t = some d) (w : World) : (underlying t).run P w = .ok d w := by simp [underlying, h]
theorem run_inf {P : Program} {t : Nat} {d : TypeInfo} (h : P.info? t = some d) (w : World) : (typeInfo t).run P w = .ok d w := by simp [typeInfo, h]
theorem run_szOf {P : Program} {t n : Nat} (h : szOf P t = some n) (w : World) : (sizeOf t).run P w = .ok n w := by
 unfold szOf at h
 cases hi : P.info? t with
 | none => simp [hi] at h
 | some i => simp [hi] at h; simp [sizeOf, run_inf hi, h]
theorem run_byOf {P : Program} {t n : Nat} (h : byOf P t = some n) (w : World) : ∃ i, (typeInfo t).run P w = .ok i w ∧ i.bytes = n := by
 unfold byOf at h
 cases hi : P.info? t with
 | none => simp [hi] at h
 | some i => simp [hi] at h; exact ⟨i, run_inf hi w, h⟩
theorem run_zeroL {P : Program} {t : Nat} {z : List Value} (h : zeroL P t = some z) (w : World) : ∃ v, (zeroValue t).run P w = .ok v w ∧ v.cells.toList = z := by
 unfold zeroL at h
 cases hi : P.info? t with
 | none => simp [hi] at h
 | some i =>
  cases hz : i.zero with
  | none => simp [hi, hz] at h
  | some v => simp [hi, hz] at h; exact ⟨v, by simp [zeroValue, run_inf hi, hz], h⟩
theorem run_aggT {P : Program} {t : Nat} {b : Bool} (h : aggT P t = some b) (w : World) : (isAgg t).run P w = .ok b w := by
 unfold aggT at h
 cases hu : P.underlying t with
 | none => simp [hu] at h
 | some d => cases d <;> simp [hu] at h <;> subst h <;> simp [isAgg, run_und hu]

theorem cell?_eq (w : World) (b o : Nat) : w.cell? ⟨b, o, none⟩ = cell w.heap b o := by
 unfold World.cell? cell
 cases w.heap[b]? with
 | none => rfl
 | some x => cases x <;> simp
theorem frozen?_eq (w : World) (b o : Nat) : w.frozen? ⟨b, o, none⟩ = frz w.heap b o := by
 unfold World.frozen? frz
 cases w.heap[b]? with
 | none => rfl
 | some x => cases x <;> rfl
theorem add_eq (b o n : Nat) : (⟨b, o, none⟩ : Addr).add n = ⟨b, o + n, none⟩ := by
 unfold Addr.add
 split
 ·subst n; rfl
 ·rfl
theorem setCell_eq (w : World) (b o : Nat) (v : Value) : w.setCell ⟨b, o, none⟩ v = { w with heap := putc w.heap b o v } := by
 unfold World.setCell putc
 simp only [Option.isSome_none, Bool.false_eq_true, if_false]
 congr 2

theorem rdn_spec {H : Hp} {b : Nat} : ∀ {n o : Nat} {l : List Value}, rdn H b o n = some l → l.length = n ∧ ∀ j, j < n → cell H b (o + j) = l[j]?
 | 0, o, l, h => by simp [rdn] at h; subst h; exact ⟨rfl, fun j hj => by omega⟩
 | n + 1, o, l, h => by
  unfold rdn at h
  cases hc : cell H b o with
  | none => simp [hc] at h
  | some v =>
   cases hr : rdn H b (o + 1) n with
   | none => simp [hc, hr] at h
   | some r =>
    simp [hc, hr] at h
    subst h
    obtain ⟨h1, h2⟩ := rdn_spec hr
    refine ⟨by simp [h1], fun j hj => ?_⟩
    cases j with
    | zero => simp [hc]
    | succ j =>
     have := h2 j (by omega)
     rw [show o + (j + 1) = o + 1 + j by omega, this]; simp
theorem rdn_of {H : Hp} {b : Nat} : ∀ {n o : Nat} {l : List Value}, l.length = n → (∀ j, j < n → cell H b (o + j) = l[j]?) → rdn H b o n = some l
 | 0, o, l, h, _ => by cases l <;> simp_all [rdn]
 | n + 1, o, l, h, hc => by
  cases l with
  | nil => simp at h
  | cons v l =>
   have h0 := hc 0 (by omega)
   simp at h0
   have := @rdn_of H b n (o + 1) l (by simpa using h) (fun j hj => by have := hc (j + 1) (by omega); rw [show o + 1 + j = o + (j + 1) by omega, this]; simp)
   simp [rdn, h0, this]

theorem run_rdn {P : Program} {w : World} {b o n : Nat} {l : List Value} (h : rdn w.heap b o n = some l) : (loadCells ⟨b, o, none⟩ n).run P w = .ok l.toArray w := by
 obtain ⟨h1, h2⟩ := rdn_spec h
 subst h1
 refine run_loadCells_list w _ l (fun j v hv => ?_)
 rw [add_eq, cell?_eq]
 have hj : j < l.length := by
  rcases Nat.lt_or_ge j l.length with h | h
  ·exact h
  ·simp [List.getElem?_eq_none h] at hv
 rw [h2 j hj, hv]

theorem run_wrn {P : Program} : ∀ {l : List Value} {w : World} {a : Addr} {i b o : Nat} {H' : Hp}, a.add i = ⟨b, o, none⟩ → a.spot = none → wrn w.heap b o l = some H' →
  (storeCells a l i).run P w = .ok () { w with heap := H' }
 | [], w, a, i, b, o, H', _, _, h => by simp [wrn] at h; subst h; simp [storeCells]
 | v :: l, w, a, i, b, o, H', ha, hs, h => by
  unfold wrn at h
  split at h
  ·rename_i hc
   simp only [Bool.and_eq_true, Bool.not_eq_true'] at hc
   obtain ⟨⟨h1, h2⟩, h3⟩ := hc
   have e1 : (store (a.add i) v).run P w = .ok () { w with heap := putc w.heap b o v } := by
    rw [run_store P w _ v _ h3, ha, cell?_eq, frozen?_eq, h2, setCell_eq]
    cases hx : cell w.heap b o with
    | none => simp [hx] at h1
    | some x => simp
   have ha' : a.add (i + 1) = ⟨b, o + 1, none⟩ := by
    obtain ⟨ab, ao, as⟩ := a
    simp at hs; subst hs
    rw [add_eq] at ha ⊢
    simp at ha ⊢
    omega
   have := @run_wrn P l { w with heap := putc w.heap b o v } a (i + 1) b (o + 1) H' ha' hs h
   simp [storeCells, e1, this]
  ·simp at h

theorem setL_length (l : List Value) : ∀ (cs : List Value) (off : Nat), (setL cs off l).length = cs.length := by
 induction l with
 | nil => intro cs off; rfl
 | cons v l ih => intro cs off; simp [setL, ih]
theorem foldl_setL (cs : Array Value) (off : Nat) (l : List Value) : ∀ (k : Nat), (l.zipIdx k).foldl (fun cs (x : Value × Nat) => cs.setIfInBounds (off + x.2) x.1) cs = (setL cs.toList (off + k) l).toArray := by
 induction l generalizing cs with
 | nil => intro k; simp [setL]
 | cons v l ih =>
  intro k
  simp only [List.zipIdx_cons, List.foldl_cons, setL]
  rw [ih]
  simp [Nat.add_assoc]
theorem fill_fillL (place : Nat → Option (Nat × Nat)) (ρ : Operand → Value) : ∀ (ps : List (Nat × Operand)) (qs : List (Nat × Nat × Operand)) (cs : List Value),
  ps.map (fun p => place p.1) = qs.map (fun q => some (q.1, q.2.1)) → ps.map (·.2) = qs.map (·.2.2) →
  Instr.fill place cs.toArray (ps.map fun p => (p.1, ρ p.2)) = (fillL cs (qs.map fun p => (p.1, p.2.1, ρ p.2.2))).map List.toArray := by
 intro ps
 induction ps with
 | nil => intro qs cs h1 h2; cases qs <;> simp_all [Instr.fill, fillL]
 | cons p ps ih =>
  intro qs cs h1 h2
  cases qs with
  | nil => simp at h1
  | cons q qs =>
   simp only [List.map_cons, List.cons.injEq] at h1 h2
   obtain ⟨hp, h1⟩ := h1
   obtain ⟨hx, h2⟩ := h2
   simp only [List.map_cons, Instr.fill, fillL, hp, hx]
   by_cases hc : (ρ q.2.2).cells.size = q.2.1 ∧ q.1 + q.2.1 ≤ cs.length
   ·rw [if_pos hc, if_neg]
    ·rw [← Array.foldl_toList]
     have := foldl_setL cs.toArray q.1 (ρ q.2.2).cells.toList 0
     simp only [Array.toList_zipIdx] at *
     rw [this]
     simp only [Nat.add_zero]
     exact ih qs _ h1 h2
    ·simp only [List.size_toArray, ne_eq, decide_not, gt_iff_lt, Bool.or_eq_true, Bool.not_eq_true', decide_eq_false_iff_not, decide_eq_true_eq]; omega
   ·rw [if_neg hc, if_pos]
    ·rfl
    ·simp only [List.size_toArray, ne_eq, decide_not, gt_iff_lt, Bool.or_eq_true, Bool.not_eq_true', decide_eq_false_iff_not, decide_eq_true_eq]; omega

end Go.WK
/-
 Each operation of the small language does what the loaded operation does.
-/
namespace Go.WK
open Go

theorem onSome_iff {α : Type} {x : Option α} {k : α → Prop} (h : onSome x k) : ∃ v, x = some v ∧ k v := by
 cases x with
 | none => exact h.elim
 | some v => exact ⟨v, rfl, h⟩
theorem onPtr_iff {v : Value} {k : Nat → Nat → Prop} (h : onPtr v k) : ∃ b o, v = .pointer (some ⟨b, o, none⟩) ∧ k b o := by
 unfold onPtr at h
 split at h
 ·exact ⟨_, _, rfl, h⟩
 ·exact h.elim
theorem onBool_iff {v : Value} {k : Bool → Prop} (h : onBool v k) : ∃ b, v = .bool b ∧ k b := by
 unfold onBool at h
 split at h
 ·exact ⟨_, rfl, h⟩
 ·exact h.elim
theorem onSlice_iff {v : Value} {k : Option Addr → Nat → Nat → Prop} (h : onSlice v k) : ∃ a n c, v = .slice a n c ∧ k a n c := by
 unfold onSlice at h
 split at h
 ·exact ⟨_, _, _, rfl, h⟩
 ·exact h.elim
theorem onInt_iff {v : Value} {k : Int → Prop} (h : onInt v k) : ∃ i n, v = .int i n ∧ k n := by
 unfold onInt at h
 split at h
 ·exact ⟨_, _, rfl, h⟩
 ·exact h.elim
theorem onStr_iff {v : Value} {k : ByteArray → Prop} (h : onStr v k) : ∃ s, v = .string s ∧ k s := by
 unfold onStr at h
 split at h
 ·exact ⟨_, rfl, h⟩
 ·exact h.elim

section
variable {P : Program} {ρ : Operand → Value} {w : World} {κ : Value → Hp → Prop}

/-- What an operation that yields a value by a reckoning gives. -/
def vpost (w : World) (κ : Value → Hp → Prop) : Result Value → Prop
 | .ok v w' => Same w w' ∧ κ v w'.heap
 | _ => False
def upost (w : World) (κ : Value → Hp → Prop) : Result Unit → Prop
 | .ok _ w' => Same w w' ∧ κ undef w'.heap
 | _ => False
theorem opost_v {s : Sem Value} (h : vpost w κ (s.run P w)) : opost P w κ ((do pure (.value (← s)) : Sem Next).run P w) := by
 cases hr : s.run P w with
 | ok v w' => simp [hr, vpost] at h; simp [hr, opost, h]
 | halt x w' => simp [hr, vpost] at h
theorem opost_u {s : Sem Unit} (h : upost w κ (s.run P w)) : opost P w κ ((do s; pure .skip : Sem Next).run P w) := by
 cases hr : s.run P w with
 | ok v w' => simp [hr, upost] at h; simp [hr, opost, h]
 | halt x w' => simp [hr, upost] at h

theorem run_loadVar1 {t b o : Nat} {v : Value} (ht : aggT P t = some false) (h : cell w.heap b o = some v) : (loadVar t ⟨b, o, none⟩).run P w = .ok v w := by
 simp [loadVar, run_aggT ht, cell?_eq, h]
theorem run_loadVarn {t b o n : Nat} {l : List Value} (ht : aggT P t = some true) (hn : szOf P t = some n) (h : rdn w.heap b o n = some l) : (loadVar t ⟨b, o, none⟩).run P w = .ok (.agg l.toArray) w := by
 simp [loadVar, run_aggT ht, run_szOf hn, run_rdn h]
theorem run_storeVar {t b o n : Nat} {v : Value} {H' : Hp} (hn : szOf P t = some n) (hv : v.cells.size = n) (h : wrn w.heap b o v.cells.toList = some H') : (storeVar t ⟨b, o, none⟩ v).run P w = .ok () { w with heap := H' } := by
 simp [storeVar, run_szOf hn, hv, run_wrn (P := P) (a := ⟨b, o, none⟩) (i := 0) (add_eq b o 0) rfl h]

theorem s_load {t : Nat} {x : Operand} {i : I} (hc : compLoad P t x = some i) (h : isem P i ρ w.heap κ) : vpost w κ ((Instr.loadAt t (ρ x)).run P w) := by
 unfold compLoad at hc
 split at hc
 ·rename_i n ha hn
  simp at hc; subst hc
  obtain ⟨b, o, hx, h⟩ := onPtr_iff h
  obtain ⟨l, hl, h⟩ := onSome_iff h
  simp [Instr.loadAt, Instr.sureAddr, hx, run_loadVarn ha hn hl, vpost, h, Same.refl]
 ·rename_i ha
  simp at hc; subst hc
  obtain ⟨b, o, hx, h⟩ := onPtr_iff h
  obtain ⟨v, hv, h⟩ := onSome_iff h
  simp [Instr.loadAt, Instr.sureAddr, hx, run_loadVar1 ha hv, vpost, h, Same.refl]
 ·simp at hc

theorem s_store {t n : Nat} {a v : Operand} (hn : szOf P t = some n) (h : isem P (.st n a v) ρ w.heap κ) : upost w κ ((Instr.storeAt t (ρ a) (ρ v)).run P w) := by
 obtain ⟨b, o, hx, hs, h⟩ := onPtr_iff h
 obtain ⟨H', hw, h⟩ := onSome_iff h
 simp [Instr.storeAt, Instr.sureAddr, hx, run_storeVar hn hs hw, upost, h]
 exact ⟨rfl, rfl, rfl⟩

theorem s_new {t : Nat} {z : List Value} (hz : zeroL P t = some z) (h : isem P (.new t z) ρ w.heap κ) : vpost w κ ((Instr.alloc t true (.tuple #[])).run P w) := by
 obtain ⟨v, hv, e⟩ := run_zeroL hz w
 simp [Instr.alloc, hv, newVar, newRow, vpost]
 refine ⟨⟨rfl, rfl, rfl⟩, ?_⟩
 subst e
 exact h
theorem s_box {t : Nat} {x : Operand} (h : isem P (.box t x) ρ w.heap κ) : vpost w κ ((Instr.box t (ρ x)).run P w) := by
 simp [Instr.box, newVar, newRow, vpost]
 exact ⟨⟨rfl, rfl, rfl⟩, h⟩

theorem partsOf_fits {fields : Array Field} : ∀ {ps : List (Nat × Operand)} {qs : List (Nat × Nat × Operand)}, partsOf P fields ps = some qs →
  ps.map (fun p => (fields[p.1]?).bind fun f => (szOf P f.type).map fun s => (f.offset, s)) = qs.map (fun q => some (q.1, q.2.1)) ∧ ps.map (·.2) = qs.map (·.2.2)
 | [], qs, h => by simp [partsOf] at h; subst h; simp
 | (i, x) :: ps, qs, h => by
  unfold partsOf at h
  cases hf : fields[i]? with
  | none => simp [hf] at h
  | some f =>
   cases hs : szOf P f.type with
   | none => simp [hf, hs] at h
   | some s =>
    cases hr : partsOf P fields ps with
    | none => simp [hf, hs, hr] at h
    | some r =>
     simp [hf, hs, hr] at h
     subst h
     obtain ⟨h1, h2⟩ := partsOf_fits hr
     exact ⟨by simp [hf, hs, h1], by simp [h2]⟩

theorem run_mapM_sizes (fields : List Field) (hall : ∀ f ∈ fields, (szOf P f.type).isSome) :
  ((fields.mapM fun f => do pure (f.offset, ← sizeOf f.type)) : Sem (List (Nat × Nat))).run P w = .ok (fields.map fun f => (f.offset, (szOf P f.type).getD 0)) w := by
 induction fields with
 | nil => simp
 | cons f fs ih =>
  have h1 := hall f (by simp)
  have h2 := ih (fun g hg => hall g (by simp [hg]))
  cases hs : szOf P f.type with
  | none => simp [hs] at h1
  | some s =>
   rw [List.mapM_cons]
   simp only [Sem.run_bind, run_szOf hs, Result.andThen_ok, Sem.run_pure, h2, List.map_cons, hs, Option.getD_some]

theorem s_build {t : Nat} {ps : Array (Nat × Operand)} {i : I} (hc : compBuild P t ps = some i) (h : isem P i ρ w.heap κ) :
  vpost w κ ((Instr.build t (ps.map fun (i, x) => (i, ρ x))).run P w) := by
 unfold compBuild at hc
 split at hc
 ·rename_i z fields hz hu
  split at hc
  ·rename_i hall
   cases hq : partsOf P fields ps.toList with
   | none => simp [hq] at hc
   | some qs =>
    simp [hq] at hc; subst hc
    obtain ⟨l, hl, h⟩ := onSome_iff h
    obtain ⟨v, hv, e⟩ := run_zeroL hz w
    obtain ⟨h1, h2⟩ := partsOf_fits hq
    have hm := run_mapM_sizes (P := P) (w := w) fields.toList (fun f hf => by have := List.all_eq_true.1 hall f hf; simpa using this)
    have hf := fill_fillL (fun i => ((fields.toList.map fun f => (f.offset, (szOf P f.type).getD 0)).toArray)[i]?) ρ ps.toList qs z (by
     rw [← h1]
     apply List.map_congr_left
     intro p hp
     have hp' : (fields[p.1]?).bind (fun f => (szOf P f.type).map fun s => (f.offset, s)) ∈ qs.map (fun q => some (q.1, q.2.1)) := by rw [← h1]; exact List.mem_map.2 ⟨p, hp, rfl⟩
     simp only [List.getElem?_toArray, List.getElem?_map, Array.getElem?_toList]
     cases hfe : fields[p.1]? with
     | none => rfl
     | some f =>
      have hs := List.all_eq_true.1 hall f (by have := Array.mem_of_getElem? hfe; simpa using this)
      cases hs' : szOf P f.type with
      | none => simp [hs'] at hs
      | some s => simp [hs']) h2
    rw [hl] at hf
    have hcells : v.cells = z.toArray := by rw [← e]
    simp only [Instr.build, Sem.run_bind, hv, Result.andThen_ok, run_und hu, Array.mapM_eq_mapM_toList, Sem.run_map, hm, hcells, Array.toList_map]
    have hx : (List.map (fun x : Nat × Operand => (x.1, ρ x.2)) ps.toList) = ps.toList.map fun p => (p.1, ρ p.2) := rfl
    simp only [hx, hf, Option.map_some]
    simp [vpost, h, Same.refl]
  ·simp at hc
 ·rename_i z n elem hz hu
  cases hs : szOf P elem with
  | none => simp [hs] at hc
  | some s =>
   simp [hs] at hc; subst hc
   obtain ⟨l, hl, h⟩ := onSome_iff h
   obtain ⟨v, hv, e⟩ := run_zeroL hz w
   have hcells : v.cells = z.toArray := by rw [← e]
   have hf := fill_fillL (fun i => some (i * s, s)) ρ ps.toList (ps.toList.map fun p => (p.1 * s, s, p.2)) z (by simp [Function.comp_def]) (by simp [Function.comp_def])
   rw [hl] at hf
   simp only [Instr.build, Sem.run_bind, hv, Result.andThen_ok, run_und hu, run_szOf hs, hcells, Array.toList_map]
   have hx : (List.map (fun x : Nat × Operand => (x.1, ρ x.2)) ps.toList) = ps.toList.map fun p => (p.1, ρ p.2) := rfl
   simp only [hx, hf, Option.map_some]
   simp [vpost, h, Same.refl]
 ·simp at hc

end
end Go.WK
