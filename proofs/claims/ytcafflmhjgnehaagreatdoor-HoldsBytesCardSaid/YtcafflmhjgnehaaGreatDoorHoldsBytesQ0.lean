/-
  HoldsBytes: for every list of holds and every bytes in memory the function returns true, does not panic and leaves what was there; its condition is the one of its row. Part 1 of 14.
-/
import Derived.Calls
import Derived.Orders
import Derived.Laws.World
import Derived.Laws.Cells
set_option linter.unusedSimpArgs false
set_option linter.unusedVariables false
set_option linter.defProp false
set_option maxRecDepth 100000
/-
 A small language over heaps, into which the loaded code is translated by a checked function, and its laws. No program in sight.
-/
namespace Go.WK
open Go
universe u

abbrev Hp := Array Obj
abbrev Fr := Nat → Value

theorem nrfl {α : Sort u} {a b : α} (h : a = b) : a = b := h

def upd (f : Fr) (d : Nat) (v : Value) : Fr := fun i => bif i == d then v else f i
theorem upd_apply (f : Fr) (d : Nat) (v : Value) (i : Nat) : upd f d v i = bif i == d then v else f i := nrfl rfl
def fr0 : Fr := fun _ => undef

def ev (f : Fr) : Operand → Value
 | .tmp t => f t
 | .const v => v
 | .global g => .pointer (some ⟨g, 0, none⟩)
 | .func k => .func (.func k) #[] #[]
theorem ev_tmp (f : Fr) (t : Nat) : ev f (.tmp t) = f t := nrfl rfl
theorem ev_const (f : Fr) (v : Value) : ev f (.const v) = v := nrfl rfl
theorem ev_global (f : Fr) (g : Nat) : ev f (.global g) = .pointer (some ⟨g, 0, none⟩) := nrfl rfl
theorem ev_func (f : Fr) (k : Nat) : ev f (.func k) = .func (.func k) #[] #[] := nrfl rfl

/-- The cell at an offset of a block. -/
def cell (H : Hp) (b o : Nat) : Option Value :=
 match H[b]? with
 | some (.cells c _ _) => c[o]?
 | _ => none
/-- Is it frozen? -/
def frz (H : Hp) (b o : Nat) : Bool :=
 match H[b]? with
 | some (.cells _ _ (lo, hi)) => lo ≤ o && o < hi
 | _ => false
def putc (H : Hp) (b o : Nat) (v : Value) : Hp :=
 H.modify b fun
  | .cells c t z => .cells (c.setIfInBounds o v) t z
  | x => x
/-- Some cells, one behind the other. -/
def rdn (H : Hp) (b o : Nat) : Nat → Option (List Value)
 | 0 => some []
 | n + 1 =>
  match cell H b o with
  | some v => (rdn H b (o + 1) n).map (v :: ·)
  | none => none
def wrn (H : Hp) (b o : Nat) : List Value → Option Hp
 | [] => some H
 | v :: l => if (cell H b o).isSome && !frz H b o && v.oneCell' then wrn (putc H b o v) b (o + 1) l else none

def setL (cs : List Value) (off : Nat) : List Value → List Value
 | [] => cs
 | v :: l => setL (cs.set off v) (off + 1) l
def fillL (cs : List Value) : List (Nat × Nat × Value) → Option (List Value)
 | [] => some cs
 | (off, size, v) :: rest => if v.cells.size = size ∧ off + size ≤ cs.length then fillL (setL cs off v.cells.toList) rest else none

def onPtr (v : Value) (k : Nat → Nat → Prop) : Prop := match v with | .pointer (some ⟨b, o, none⟩) => k b o | _ => False
def onBool (v : Value) (k : Bool → Prop) : Prop := match v with | .bool b => k b | _ => False
def onSome {α : Type} (x : Option α) (k : α → Prop) : Prop := match x with | some v => k v | none => False
def onSlice (v : Value) (k : Option Addr → Nat → Nat → Prop) : Prop := match v with | .slice a n c => k a n c | _ => False
def onInt (v : Value) (k : Int → Prop) : Prop := match v with | .int _ n => k n | _ => False
def onStr (v : Value) (k : ByteArray → Prop) : Prop := match v with | .string s => k s | _ => False
def onG (v : Value) (b : Bool) (A B : Prop) : Prop := match v with | .bool c => if c = b then A else B | _ => B
theorem onPtr_eq (b o : Nat) (k : Nat → Nat → Prop) : onPtr (.pointer (some ⟨b, o, none⟩)) k = k b o := rfl
theorem onBool_eq (b : Bool) (k : Bool → Prop) : onBool (.bool b) k = k b := rfl
theorem onSome_eq {α : Type} (v : α) (k : α → Prop) : onSome (some v) k = k v := rfl
theorem onSlice_eq (a : Option Addr) (n c : Nat) (k : Option Addr → Nat → Nat → Prop) : onSlice (.slice a n c) k = k a n c := rfl
theorem onInt_eq (i : IntKind) (n : Int) (k : Int → Prop) : onInt (.int i n) k = k n := rfl
theorem onStr_eq (s : ByteArray) (k : ByteArray → Prop) : onStr (.string s) k = k s := rfl
theorem onG_eq (c b : Bool) (A B : Prop) : onG (.bool c) b A B = if c = b then A else B := rfl
theorem onG_undef (b : Bool) (A B : Prop) : onG undef b A B = B := rfl

/-- '+ - * / % & | ^ &^ << >>' and comparisons of integers; comparisons and '+' of strings. -/
def intV (op : BinOp) (k : IntKind) (a b : Int) : Option Value :=
 match op with
 | .add => some (.int k (k.wrap (a + b)))
 | .sub => some (.int k (k.wrap (a - b)))
 | .mul => some (.int k (k.wrap (a * b)))
 | .quo => if b = 0 then none else some (.int k (k.wrap (a.tdiv b)))
 | .rem => if b = 0 then none else some (.int k (a.tmod b))
 | .and => some (.int k (k.wrap (BitVec.ofInt k.bits a &&& BitVec.ofInt k.bits b).toNat))
 | .or => some (.int k (k.wrap (BitVec.ofInt k.bits a ||| BitVec.ofInt k.bits b).toNat))
 | .xor => some (.int k (k.wrap (BitVec.ofInt k.bits a ^^^ BitVec.ofInt k.bits b).toNat))
 | .andNot => some (.int k (k.wrap (BitVec.ofInt k.bits a &&& ~~~BitVec.ofInt k.bits b).toNat))
 | .eql => some (.bool (decide (a = b)))
 | .neq => some (.bool (!decide (a = b)))
 | .lss => some (.bool (a < b))
 | .leq => some (.bool (a ≤ b))
 | .gtr => some (.bool (a > b))
 | .geq => some (.bool (a ≥ b))
 | _ => none
def shV (op : BinOp) (k : IntKind) (a b : Int) : Option Value :=
 match op with
 | .shl => if b < 0 then none else some (.int k (k.wrap (a * 2 ^ (min b.toNat k.bits))))
 | .shr => if b < 0 then none else some (.int k (a.fdiv (2 ^ (min b.toNat k.bits))))
 | _ => none
/-- Is a text less than another one? -/
def sless (x y : ByteArray) : Bool := Op.bytesLess x.toList y.toList
def strV (op : BinOp) (x y : ByteArray) : Option Value :=
 match op with
 | .add => if ((x.size + y.size : Nat) : Int) > IntKind.i64.max then none else some (.string (x ++ y))
 | .eql => some (.bool (decide (x = y)))
 | .neq => some (.bool (!decide (x = y)))
 | .lss => some (.bool (sless x y))
 | .leq => some (.bool (!sless y x))
 | .gtr => some (.bool (sless y x))
 | .geq => some (.bool (!sless x y))
 | _ => none
def binV (op : BinOp) (x y : Value) : Option Value :=
 match op, x, y with
 | .shl, .int k a, .int _ b => shV .shl k a b
 | .shr, .int k a, .int _ b => shV .shr k a b
 | op, .int k a, .int k' b => if k = k' then intV op k a b else none
 | op, .string a, .string b => strV op a b
 | _, _, _ => none
/-- '==' where one side is nil: pointers, slices, maps, functions. -/
inductive NK where
 | ptr | sli | map | fn
def nilV (k : NK) (x y : Value) : Option Bool :=
 match k, x, y with
 | .ptr, .pointer none, .pointer b => some b.isNone
 | .ptr, .pointer (some _), .pointer none => some false
 | .sli, .slice none _ _, .slice b _ _ => some b.isNone
 | .sli, .slice (some _) _ _, .slice none _ _ => some false
 | .map, .map none, .map b => some b.isNone
 | .map, .map (some _), .map none => some false
 | .fn, .nilFunc, .nilFunc => some true
 | .fn, .nilFunc, .func _ _ _ => some false
 | .fn, .func _ _ _, .nilFunc => some false
 | _, _, _ => none
/-- Two cells of one plain kind: are they equal? -/
inductive LK where
 | i | s | b
def leafEq (k : LK) (x y : Value) : Option Bool :=
 match k, x, y with
 | .i, .int k a, .int k' b => if k = k' then some (decide (a = b)) else none
 | .s, .string a, .string b => some (decide (a = b))
 | .b, .bool a, .bool b => some (decide (a = b))
 | _, _, _ => none
def leavesEq : List LK → List Value → List Value → Option Bool
 | [], [], [] => some true
 | k :: ks, x :: xs, y :: ys => match leafEq k x y, leavesEq ks xs ys with | some b, some c => some (b && c) | _, _ => none
 | _, _, _ => none
def unV (op : UnOp) (x : Value) : Option Value :=
 match op, x with
 | .neg, .int k n => some (.int k (k.wrap (0 - n)))
 | .xor, .int k n => some (.int k (k.wrap (BitVec.ofInt k.bits (if k.signed then -1 else k.max) ^^^ BitVec.ofInt k.bits n).toNat))
 | .not, .bool b => some (.bool !b)
 | _, _ => none
def bytesOfCells : List Value → Option (List UInt8)
 | [] => some []
 | .int .u8 n :: l => (bytesOfCells l).map (UInt8.ofNat n.toNat :: ·)
 | _ :: _ => none
def cellsOfBytes (l : List UInt8) : List Value := l.map fun b => .int .u8 b.toNat
def zerosL (z : List Value) (n : Nat) : List Value := (List.range (n * z.length)).map fun i => z.getD (i % z.length) default
/-- A slice's bounds. -/
def bound (v : Value) (y : Nat) : Option Nat := match v with | .int _ i => if 0 ≤ i ∧ i ≤ y then some i.toNat else none | _ => none
def bounds3 (len cap : Nat) (lo hi mx : Option Value) : Option (Nat × Nat × Nat) :=
 match (match mx with | some v => bound v cap | none => some cap) with
 | none => none
 | some m =>
  match (match hi, mx with | some v, some _ => bound v m | some v, none => bound v cap | none, none => some len | none, some _ => none) with
  | none => none
  | some h =>
   match (match lo with | some v => bound v h | none => some 0) with
   | none => none
   | some l => some (l, h, m)
def Addr.plus (a : Addr) (n : Nat) : Addr := ⟨a.block, a.off + n, none⟩
/-- The kind of a map's keys; is a value of it? -/
inductive KK where
 | i (q : IntKind) | s | b
def key? (k : KK) (x : Value) : Bool :=
 match k, x with
 | .i q, .int q' _ => decide (q = q')
 | .s, .string _ => true
 | .b, .bool _ => true
 | _, _ => false
def keyEq (x y : Value) : Bool :=
 match x, y with
 | .int k a, .int k' b => decide (k = k') && decide (a = b)
 | .string a, .string b => decide (a = b)
 | .bool a, .bool b => decide (a = b)
 | _, _ => false
def maxI : List Value → Option Value
 | [] => none
 | [.int k x] => some (.int k x)
 | .int k x :: .int k' y :: l => maxI (.int k (if y > x then y else x) :: l)
 | _ => none
termination_by l => l.length
def minI : List Value → Option Value
 | [] => none
 | [.int k x] => some (.int k x)
 | .int k x :: .int k' y :: l => minI (.int k (if y < x then y else x) :: l)
 | _ => none
termination_by l => l.length

/-- One operation. -/
inductive I where
 | mv (x : Operand)
 | pick (c a b : Operand)
 | new (t : Nat) (z : List Value)
 | box (t : Nat) (x : Operand)
 | bld (z : List Value) (ps : List (Nat × Nat × Operand))
 | bsl (t len : Nat) (z : List Value) (ps : List (Nat × Nat × Operand))
 | ld (x : Operand)
 | ldn (n : Nat) (x : Operand)
 | st (n : Nat) (a v : Operand)
 | nck (x : Operand)
 | bin (op : BinOp) (x y : Operand)
 | eqb (neg : Bool) (x y : Operand)
 | eqz (nk : NK) (neg : Bool) (x y : Operand)
 | eqs (lk : List LK) (neg : Bool) (x y : Operand)
 | un (op : UnOp) (x : Operand)
 | cvi (k : IntKind) (x : Operand)
 | cvs (x : Operand)
 | cbs (x : Operand)
 | csb (t : Nat) (x : Operand)
 | sl (k : Nat) (x : Operand) (lo hi mx : Option Operand)
 | sls (x : Operand) (lo hi : Option Operand)
 | fa (off : Nat) (x : Operand)
 | fld (n : Option Nat) (off : Nat) (x : Operand)
 | ia (k : Nat) (x i : Operand)
 | ixs (x i : Operand)
 | ext (n : Nat) (x : Operand)
 | len (x : Operand)
 | slen (x : Operand)
 | cap (x : Operand)
 | mlen (x : Operand)
 | app (t k bytes : Nat) (z : List Value) (x y : Operand)
 | apz (t k bytes : Nat) (z : List Value) (x y : Operand)
 | iaa (n k : Nat) (x i : Operand)
 | cpy (k : Nat) (x y : Operand)
 | call (f : Nat) (args : List Operand)
 | callv (x : Operand) (args : List Operand)
 | mkf (f : Nat) (caps : List Operand)
 | mkm
 | mup (kk : KK) (m k v : Operand)
 | mlk (kk : KK) (zero : Value) (ok : Bool) (m k : Operand)
 | mks (t k bytes : Nat) (z : List Value) (l c : Operand)
 | mx (xs : List Operand)
 | mn (xs : List Operand)
 | clr (k : Nat) (z : List Value) (x : Operand)

structure Same (w w' : World) : Prop where
 os : w'.os = w.os
 tape : w'.tape = w.tape
 output : w'.output = w.output
theorem Same.refl (w : World) : Same w w := ⟨rfl, rfl, rfl⟩
theorem Same.trans {a b c : World} (h : Same a b) (k : Same b c) : Same a c := ⟨k.os.trans h.os, k.tape.trans h.tape, k.output.trans h.output⟩

def callable (P : Program) (f : Nat) : Bool := match P.funcs[f]? with | some fn => fn.name != "runtime.NumGoroutine" && fn.body.isSome | none => false
/-- The call returns a value, the heap being such: a loaded function's, or one of the model's own. -/
def ClL (P : Program) (f : FuncId) (args : List Value) (H : Hp) (R : Value → Hp → Prop) : Prop :=
 callable P f = true ∧ ∀ w : World, w.heap = H → Calls P f args.toArray w fun e w' => Same w w' ∧ ∃ v, e = .returned v ∧ R v w'.heap
def Cl (P : Program) (f : FuncId) (args : List Value) (H : Hp) (R : Value → Hp → Prop) : Prop :=
 ClL P f args H R ∨ ∀ w : World, w.heap = H → ∃ v w', (callFunc f args.toArray).run P w = .ok (.value v) w' ∧ Same w w' ∧ R v w'.heap
theorem Cl.mono {P : Program} {f : FuncId} {args : List Value} {H : Hp} {R R' : Value → Hp → Prop} (h : Cl P f args H R) (hr : ∀ v H', R v H' → R' v H') : Cl P f args H R' := by
 rcases h with h | h
 ·exact .inl ⟨h.1, fun w hw => (h.2 w hw).mono fun _ _ ⟨hs, v, he, hR⟩ => ⟨hs, v, he, hr _ _ hR⟩⟩
 ·refine .inr fun w hw => ?_
  obtain ⟨v, w', h1, h2, h3⟩ := h w hw
  exact ⟨v, w', h1, h2, hr _ _ h3⟩

def findE (k : Value) : List MapEntry → Nat → Option (Nat × Value)
 | [], _ => none
 | e :: es, i => if keyEq k e.key then some (i, e.val) else findE k es (i + 1)

def lookV (zero : Value) (ok : Bool) (r : Option (Nat × Value)) : Value :=
 match ok, r with
 | true, some (_, v) => .tuple #[v, .bool true]
 | true, none => .tuple #[zero, .bool false]
 | false, some (_, v) => v
 | false, none => zero
/-- What is appended: how many elements, and their cells. -/
def appSrc (H : Hp) (k : Nat) (y : Value) : Option (Nat × List Value) :=
 match y with
 | .slice none 0 _ => some (0, [])
 | .slice (some p) m _ => if p.spot = none ∨ m = 0 then (rdn H p.block p.off (m * k)).map fun l => (m, l) else none
 | .string s => some (s.size, cellsOfBytes s.data.toList)
 | _ => none
def appS (H : Hp) (κ : Value → Hp → Prop) (t k bytes : Nat) (z : List Value) (a : Option Addr) (n c m : Nat) (l : List Value) : Prop :=
 if n + m ≤ c then
  match a with
  | none => κ (.slice none (n + m) c) H
  | some p => p.spot = none ∧ onSome (wrn H p.block (p.off + n * k) l) fun H' => κ (.slice (some p) (n + m) c) H'
 else Builtin.nextslicecap (n + m) c * bytes ≤ 2 ^ 48 ∧ bytes ≠ 0 ∧ (match a with
  | none => n = 0 ∧ ∀ c', n + m ≤ c' → κ (.slice (some ⟨H.size, 0, none⟩) (n + m) c') (H.push (.cells (l ++ zerosL z (c' - (n + m))).toArray t))
  | some p => p.spot = none ∧ onSome (rdn H p.block p.off (n * k)) fun old =>
    ∀ c', n + m ≤ c' → κ (.slice (some ⟨H.size, 0, none⟩) (n + m) c') (H.push (.cells (old ++ l ++ zerosL z (c' - (n + m))).toArray t)))
/-- What is copied to a slice of n elements: how many, and their cells. -/
def cpySrc (H : Hp) (k n : Nat) (y : Value) : Option (Nat × List Value) :=
 match y with
 | .slice none m _ => some (min m n, [])
 | .slice (some p) m _ => if p.spot = none then (rdn H p.block p.off (min m n * k)).map fun l => (min m n, l) else none
 | .string s => some (min s.size n, cellsOfBytes (s.data.toList.take (min s.size n)))
 | _ => none
def cpyS (H : Hp) (κ : Value → Hp → Prop) (a : Option Addr) (m : Nat) (l : List Value) : Prop :=
 match a with
 | none => κ (.int .i64 m) H
 | some p => p.spot = none ∧ onSome (wrn H p.block p.off l) fun H' => κ (.int .i64 m) H'

/-- A plain address, or none is reckoned with it. -/
def Pl (a : Option Addr) (q : Prop) : Prop := ∀ p, a = some p → p.spot = none ∨ q
theorem pl_some {b o : Nat} {q : Prop} : Pl (some ⟨b, o, none⟩) q = True := eq_true fun p h => .inl (by cases h; rfl)
theorem pl_none {q : Prop} : Pl none q = True := eq_true fun p h => by cases h
theorem pl_of {a : Option Addr} {q : Prop} (h : ∀ x : Addr, a = some x → x.spot = none) : Pl a q = True := eq_true fun p hp => .inl (h p hp)

def isem (P : Program) (i : I) (ρ : Operand → Value) (H : Hp) (κ : Value → Hp → Prop) : Prop :=
 match i with
 | .mv x => κ (ρ x) H
 | .pick c a b => onBool (ρ c) fun t => κ (bif t then ρ a else ρ b) H
 | .new t z => κ (.pointer (some ⟨H.size, 0, none⟩)) (H.push (.cells z.toArray t))
 | .box t x => κ (.pointer (some ⟨H.size, 0, none⟩)) (H.push (.cells (ρ x).cells t))
 | .bld z ps => onSome (fillL z (ps.map fun p => (p.1, p.2.1, ρ p.2.2))) fun l => κ (.agg l.toArray) H
 | .bsl t len z ps => onSome (fillL z (ps.map fun p => (p.1, p.2.1, ρ p.2.2))) fun l => κ (.slice (some ⟨H.size, 0, none⟩) len len) (H.push (.cells l.toArray t))
 | .ld x => onPtr (ρ x) fun b o => onSome (cell H b o) fun v => κ v H
 | .ldn n x => onPtr (ρ x) fun b o => onSome (rdn H b o n) fun l => κ (.agg l.toArray) H
 | .st n a v => onPtr (ρ a) fun b o => (ρ v).cells.size = n ∧ onSome (wrn H b o (ρ v).cells.toList) fun H' => κ undef H'
 | .nck x => onPtr (ρ x) fun b o => κ (.pointer (some ⟨b, o, none⟩)) H
 | .bin op x y => onSome (binV op (ρ x) (ρ y)) fun v => κ v H
 | .eqb neg x y => onBool (ρ x) fun a => onBool (ρ y) fun b => κ (.bool (bif neg then !decide (a = b) else decide (a = b))) H
 | .eqz nk neg x y => onSome (nilV nk (ρ x) (ρ y)) fun a => κ (.bool (bif neg then !a else a)) H
 | .eqs lk neg x y => onSome (match ρ x, ρ y with | .agg a, .agg b => leavesEq lk a.toList b.toList | _, _ => none) fun a => κ (.bool (bif neg then !a else a)) H
 | .un op x => onSome (unV op (ρ x)) fun v => κ v H
 | .cvi k x => onInt (ρ x) fun n => κ (.int k (k.wrap n)) H
 | .cvs x => onStr (ρ x) fun s => κ (.string s) H
 | .cbs x => onSlice (ρ x) fun a n _ => match a with
  | none => κ (.string .empty) H
  | some a => a.spot = none ∧ onSome (rdn H a.block a.off n) fun l => onSome (bytesOfCells l) fun bs => κ (.string ⟨bs.toArray⟩) H
 | .csb t x => onStr (ρ x) fun s => ∀ c : Nat, s.size ≤ c → κ (.slice (some ⟨H.size, 0, none⟩) s.size c) (H.push (.cells (cellsOfBytes s.data.toList ++ List.replicate (c - s.size) (Value.int .u8 0)).toArray t (c, c + 1)))
 | .sl k x lo hi mx => onSlice (ρ x) fun a n c => onSome (bounds3 n c (lo.map ρ) (hi.map ρ) (mx.map ρ)) fun r =>
   Pl a (r.2.2 = r.1) ∧ κ (.slice (if r.2.2 = r.1 then a else a.map fun p => ⟨p.block, p.off + r.1 * k, none⟩) (r.2.1 - r.1) (r.2.2 - r.1)) H
 | .sls x lo hi => onStr (ρ x) fun s => onSome (bounds3 s.size s.size (lo.map ρ) (hi.map ρ) none) fun r => κ (.string (s.extract r.1 r.2.1)) H
 | .fa off x => onPtr (ρ x) fun b o => κ (.pointer (some ⟨b, o + off, none⟩)) H
 | .fld n off x => match n with
  | some n => match ρ x with | .agg cs => κ (.agg (cs.extract off (off + n))) H | _ => False
  | none => match ρ x with | .agg cs => onSome cs[off]? fun v => κ v H | _ => False
 | .ia k x i => onSlice (ρ x) fun a n _ => onInt (ρ i) fun j => (0 ≤ j ∧ j < n) ∧ onSome a fun p => p.spot = none ∧ κ (.pointer (some ⟨p.block, p.off + j.toNat * k, none⟩)) H
 | .ixs x i => onStr (ρ x) fun s => onInt (ρ i) fun j => 0 ≤ j ∧ onSome s.data[j.toNat]? fun b => κ (.int .u8 b.toNat) H
 | .ext n x => match ρ x with | .tuple vs => onSome vs[n]? fun v => κ v H | _ => False
 | .len x => onSlice (ρ x) fun _ n _ => κ (.int .i64 n) H
 | .slen x => onStr (ρ x) fun s => κ (.int .i64 s.size) H
 | .cap x => onSlice (ρ x) fun _ _ n => κ (.int .i64 n) H
 | .mlen x => match ρ x with
  | .map (some r) => match H[r]? with | some (.map es _) => κ (.int .i64 es.size) H | _ => False
  | .map none => κ (.int .i64 0) H
  | _ => False
 | .app t k bytes z x y => onSlice (ρ x) fun a n c => onSome (appSrc H k (ρ y)) fun r => appS H κ t k bytes z a n c r.1 r.2
 | .apz t k bytes z x y => onSlice (ρ x) fun a n c => onInt (ρ y) fun l => (0 ≤ l ∧ n + l < 2 ^ 62 ∧ l * bytes ≤ 2 ^ 48) ∧ appS H κ t k bytes z a n c l.toNat (zerosL z l.toNat)
 | .iaa n k x i => onPtr (ρ x) fun b o => onInt (ρ i) fun j => (0 ≤ j ∧ j < n) ∧ κ (.pointer (some ⟨b, o + j.toNat * k, none⟩)) H
 | .cpy k x y => onSlice (ρ x) fun a n _ => onSome (cpySrc H k n (ρ y)) fun r => cpyS H κ a r.1 r.2
 | .call f args => Cl P f (args.map ρ) H κ
 | .callv x args => match ρ x with
  | .func (.func f) first captured => Cl P f (first.toList ++ args.map ρ ++ captured.toList) H κ
  | _ => False
 | .mkf f caps => κ (.func (.func f) #[] (caps.map ρ).toArray) H
 | .mkm => κ (.map (some H.size)) (H.push (.map #[] 0))
 | .mup kk m k v => match ρ m with
  | .map (some r) => key? kk (ρ k) = true ∧ match H[r]? with
   | some (.map es clock) => (∀ e ∈ es, key? kk e.key = true) ∧ (match findE (ρ k) es.toList 0 with
    | some (i, _) => κ undef (H.setIfInBounds r (.map (es.modify i fun e => { e with key := ρ k, val := ρ v }) clock))
    | none => κ undef (H.setIfInBounds r (.map (es.push { key := ρ k, val := ρ v, born := clock }) (clock + 1))))
   | _ => False
  | _ => False
 | .mlk kk zero ok m k =>
   key? kk (ρ k) = true ∧ match ρ m with
   | .map none => κ (lookV zero ok none) H
   | .map (some r) => match H[r]? with
    | some (.map es _) => (∀ e ∈ es, key? kk e.key = true) ∧ κ (lookV zero ok (findE (ρ k) es.toList 0)) H
    | _ => False
   | _ => False
 | .mks t k bytes z l c => onInt (ρ l) fun a => onInt (ρ c) fun b => 0 ≤ a ∧ a ≤ b ∧ b < 2 ^ 62 ∧ bytes * b ≤ 2 ^ 48 ∧ κ (.slice (some ⟨H.size, 0, none⟩) a.toNat b.toNat) (H.push (.cells (zerosL z b.toNat).toArray t))
 | .mx xs => onSome (maxI (xs.map ρ)) fun v => κ v H
 | .mn xs => onSome (minI (xs.map ρ)) fun v => κ v H
 | .clr k z x => match ρ x with
  | .slice none _ _ => κ (.tuple #[]) H
  | .slice (some p) n _ => p.spot = none ∧ onSome (wrn H p.block p.off (zerosL z n)) fun H' => κ (.tuple #[]) H'
  | _ => False

end Go.WK
