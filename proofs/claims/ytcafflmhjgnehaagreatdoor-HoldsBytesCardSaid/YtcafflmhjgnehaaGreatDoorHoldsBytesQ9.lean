/-
  HoldsBytes: for every list of holds and every bytes in memory the function returns true, does not panic and leaves what was there; its condition is the one of its row. Part 10 of 14.
-/
import Derived.Test.YtcafflmhjgnehaaGreatDoorHoldsBytesQ3
import Derived.ProofKit
import Derived.Handed
import Derived.WideShapes
import Derived.Carry
import Derived.LaidLaws
import Derived.Stop.Joined
import Derived.Calls
set_option linter.unusedSimpArgs false
set_option linter.unusedVariables false
set_option linter.defProp false
set_option maxRecDepth 100000
/-
 What a law is called with, read as rows of cells; the frame of a law's proof.
-/
namespace Go.WK
open Go

section
variable {H : Type} {enc : TypeId × Value → H} {P : Program} {w : World} {held : Bool}

/-- What is read of some cells, nothing of it too great. -/
def Rdg (enc : TypeId × Value → H) (P : Program) (w : World) (held : Bool) (t : TypeId) (cs : List Value) (d : DataW H) : Prop :=
 (∃ fuel p, DataW.trod enc P w 0 (fun _ => true) held fuel t cs = some (d, p)) ∧ ∀ n ∈ d.weights P t, n ≤ reachBytes

theorem rdg_str {t : TypeId} {cs : List Value} {d : DataW H} (ht : P.underlying t = some .string) (h : Rdg enc P w held t cs d) : ∃ s, cs = [.string s] ∧ s.size ≤ big := by
 obtain ⟨⟨fuel, p, h⟩, hw⟩ := h
 obtain ⟨s, rfl, hx, -⟩ := DataW.trod_string ht h
 obtain ⟨rfl, -⟩ := Prod.mk.inj hx
 have := hw s.data.toList.length (by unfold DataW.weights; exact List.mem_singleton.2 rfl)
 have e : s.data.toList.length = s.size := rfl
 refine ⟨s, rfl, ?_⟩
 rw [e] at this
 unfold reachBytes at this; unfold big; omega
theorem rdg_int {t : TypeId} {k : IntKind} {cs : List Value} {d : DataW H} (ht : P.underlying t = some (.int k)) (h : Rdg enc P w held t cs d) : ∃ n, cs = [.int k n] ∧ (Lit.int k n).wf = true := by
 obtain ⟨⟨fuel, p, h⟩, hw⟩ := h
 obtain ⟨n, rfl, -, h2⟩ := DataW.trod_int ht h
 exact ⟨n, rfl, h2⟩
theorem rdg_bool {t : TypeId} {cs : List Value} {d : DataW H} (ht : P.underlying t = some .bool) (h : Rdg enc P w held t cs d) : ∃ b, cs = [.bool b] := by
 obtain ⟨⟨fuel, p, h⟩, hw⟩ := h
 obtain ⟨n, rfl, -⟩ := DataW.trod_bool ht h
 exact ⟨n, rfl⟩
theorem mapM_get {α β : Type} {f : α → Option β} : ∀ {l : List α} {r : List β}, l.mapM f = some r → r.length = l.length ∧ ∀ i (hi : i < l.length) (hr : i < r.length), f l[i] = some r[i]
 | [], r, h => by simp at h; subst h; exact ⟨rfl, fun i hi => by simp at hi⟩
 | a :: l, r, h => by
  rw [List.mapM_cons] at h
  cases ha : f a with
  | none => simp [ha] at h
  | some b =>
   cases hl : l.mapM f with
   | none => simp [ha, hl] at h
   | some q =>
    simp [ha, hl] at h
    subst h
    obtain ⟨h1, h2⟩ := mapM_get hl
    refine ⟨by simp [h1], fun i hi hr => ?_⟩
    cases i with
    | zero => exact ha
    | succ i => exact h2 i (by simpa using hi) (by simpa using hr)
theorem weightsAll_mem {e : TypeId} : ∀ {l : List (DataW H)} {d : DataW H}, d ∈ l → ∀ n ∈ d.weights P e, n ∈ DataW.weightsAll P e l
 | a :: l, d, hd, n, hn => by
  simp only [DataW.weightsAll, List.mem_append]
  rcases List.mem_cons.1 hd with rfl | hd
  ·exact .inl hn
  ·exact .inr (weightsAll_mem hd n hn)
theorem weightsEach_mem : ∀ {ts : List TypeId} {l : List (DataW H)} {i : Nat} (h1 : i < ts.length) (h2 : i < l.length), ∀ n ∈ l[i].weights P ts[i], n ∈ DataW.weightsEach P ts l
 | t :: ts, a :: l, 0, _, _, n, hn => by simp only [DataW.weightsEach, List.mem_append]; exact .inl hn
 | t :: ts, a :: l, i + 1, h1, h2, n, hn => by
  simp only [DataW.weightsEach, List.mem_append]
  exact .inr (weightsEach_mem (i := i) (by simpa using h1) (by simpa using h2) n hn)
theorem rdg_struct {t : TypeId} {fs : Array Field} {cs : List Value} {d : DataW H} (ht : P.underlying t = some (.struct fs)) (h : Rdg enc P w held t cs d) : cs.length = P.cellsOf t ∧
  ∀ i (hi : i < fs.toList.length), ∃ y, Rdg enc P w held fs.toList[i].type ((cs.drop fs.toList[i].offset).take (P.cellsOf fs.toList[i].type)) y := by
 obtain ⟨⟨fuel, p, h⟩, hw⟩ := h
 cases fuel with
 | zero => simp [DataW.trod] at h
 | succ n =>
  have hcs : cs.length = P.cellsOf t := by
   unfold DataW.trod at h
   rw [ht] at h
   split at h <;> simp_all
  refine ⟨hcs, fun i hi => ?_⟩
  have h' : (fs.toList.mapM fun f => DataW.trod enc P w 0 (fun _ => true) held n f.type ((cs.drop f.offset).take (P.cellsOf f.type))).map (fun xs => (DataW.agg (xs.map (·.1)), xs.flatMap (·.2))) = some (d, p) := by
   unfold DataW.trod at h
   rw [ht] at h
   simp only [hcs, if_true] at h
   exact h
  obtain ⟨xs, hx, hd⟩ := Option.map_eq_some_iff.1 h'
  obtain ⟨rfl, -⟩ := Prod.mk.inj hd
  obtain ⟨h1, h2⟩ := mapM_get hx
  have hxi : i < xs.length := by omega
  refine ⟨xs[i].1, ⟨n, xs[i].2, h2 i hi hxi⟩, fun m hm => hw m ?_⟩
  simp only [DataW.weights, ht]
  have := weightsEach_mem (P := P) (ts := fs.toList.map (·.type)) (l := xs.map (·.1)) (i := i) (by simpa using hi) (by simpa using hxi) m (by simpa using hm)
  exact this
theorem cells_rdn {b o k : Nat} {q : Option Nat} {l : List Value} (h : w.cells? 0 ⟨b, o, q⟩ k = some l) (hk : 0 < k) : q = none ∧ rdn w.heap b o k = some l := by
 simp only [World.cells?, Nat.zero_le, if_true] at h
 obtain ⟨h1, h2⟩ := mapM_get h
 simp only [List.length_range] at h1
 have h0 := h2 0 (by simpa using hk) (by omega)
 simp only [List.getElem_range, Addr.add, if_true] at h0
 have hq : q = none := World.cell?_spot h0
 refine ⟨hq, rdn_of h1 fun j hj => ?_⟩
 subst hq
 have hj' := h2 j (by simpa using by omega) (by omega)
 rw [List.getElem_range, add_eq] at hj'
 rw [cell?_eq] at hj'
 rw [hj', List.getElem?_eq_getElem (by omega)]
/-- A slice whose elements are read. -/
theorem rdg_slice {α : Type} {El : List Value → α → Prop} {t e k bytes : Nat} {cs : List Value} {d : DataW H} (ht : P.underlying t = some (.slice e)) (hk : P.cellsOf e = k) (hk0 : 0 < k) (hb : P.bytesOf e = bytes) (hb0 : 0 < bytes)
  (hEl : ∀ ecs y, Rdg enc P w held e ecs y → ∃ a, El ecs a) (h : Rdg enc P w held t cs d) : ∃ v l, cs = [v] ∧ SlP (fun b => b < w.heap.size) w.heap k El v l := by
 obtain ⟨⟨fuel, p, h⟩, hw⟩ := h
 cases fuel with
 | zero => simp [DataW.trod] at h
 | succ n =>
  unfold DataW.trod at h
  rw [ht] at h
  split at h
  all_goals try (rename_i hh; cases hh)
  ·exact ⟨_, [], rfl, Nat.zero_le _, .inl ⟨none, rfl, rfl⟩⟩
  ·rename_i a len cap
   obtain ⟨b, o, q⟩ := a
   simp only [Nat.zero_le, true_and, if_true, hk] at h
   split at h
   ·rename_i hlen
    obtain ⟨elems, he, h⟩ := Option.bind_eq_some_iff.1 h
    obtain ⟨rest, hr, h⟩ := Option.map_eq_some_iff.1 h
    obtain ⟨rfl, -⟩ := Prod.mk.inj h
    obtain ⟨h1, h2⟩ := mapM_get he
    simp only [List.length_range] at h1
    have hwt : elems.length * bytes ≤ reachBytes := by
     have := hw (((elems.map (·.1)).length + (rest.map (·.1)).length) * P.bytesOf e) (by simp [DataW.weights, ht])
     rw [hb, Nat.add_mul, List.length_map] at this
     omega
    have hlb : len ≤ big := by
     have h4 : len * 1 ≤ len * bytes := Nat.mul_le_mul_left _ hb0
     rw [h1] at hwt
     unfold reachBytes at hwt; unfold big; omega
    have hall : ∀ i, i < len → ∃ ecs a, (w.cells? 0 (Addr.add ⟨b, o, q⟩ (i * k)) k) = some ecs ∧ El ecs a := by
     intro i hi
     have h3 := h2 i (by simpa using hi) (by omega)
     rw [List.getElem_range] at h3
     obtain ⟨ecs, h4, h5⟩ := Option.bind_eq_some_iff.1 h3
     obtain ⟨a, ha⟩ := hEl ecs elems[i].1 ⟨⟨n, elems[i].2, h5⟩, fun m hm => hw m (by
      simp only [DataW.weights, ht, List.mem_cons, List.mem_append]
      exact .inr (.inl (weightsAll_mem (List.mem_map_of_mem (List.getElem_mem _)) m hm)))⟩
     exact ⟨ecs, a, h4, ha⟩
    have hdrop : ∀ r : Value, r = .slice (some ⟨b, o, q⟩) len cap → ∃ v l, [r] = [v] ∧ SlP (fun b => b < w.heap.size) w.heap k El v l := by
     rintro r rfl
     by_cases hc0 : cap = 0
     ·obtain rfl : len = 0 := by omega
      subst hc0
      exact ⟨_, [], rfl, Nat.zero_le _, .inl ⟨_, rfl, rfl⟩⟩
     have hq : q = none := by
      by_cases hl0 : len = 0
      ·subst hl0
       obtain ⟨g1, g2⟩ := mapM_get hr
       simp only [List.length_range] at g1
       have g3 := g2 0 (by simpa using by omega) (by omega)
       rw [List.getElem_range] at g3
       obtain ⟨ecs, h4, -⟩ := Option.bind_eq_some_iff.1 g3
       simp only [Nat.add_zero, Nat.zero_mul, Addr.add, if_true] at h4
       exact (cells_rdn h4 hk0).1
      ·obtain ⟨ecs, a, h4, -⟩ := hall 0 (by omega)
       simp only [Nat.zero_mul, Addr.add, if_true] at h4
       exact (cells_rdn h4 hk0).1
     subst hq
     obtain ⟨l, hl, hp⟩ := choose_list (n := len) (P := fun i a => ∃ ecs, (w.cells? 0 (Addr.add ⟨b, o, none⟩ (i * k)) k) = some ecs ∧ El ecs a) fun i hi => by
      obtain ⟨ecs, a, h4, h5⟩ := hall i hi
      exact ⟨a, ecs, h4, h5⟩
     refine ⟨_, l, rfl, by omega, .inr ⟨b, o, cap, by rw [hl], by omega, fun i hi => ?_⟩⟩
     obtain ⟨ecs, h4, h5⟩ := hp i hi
     rw [add_eq] at h4
     have h6 := (cells_rdn h4 hk0).2
     obtain ⟨m, rfl⟩ : ∃ m, k = m + 1 := ⟨k - 1, by omega⟩
     have hb' : b < w.heap.size := by
      have := h6
      rw [rdn_s] at this
      cases hcell : cell w.heap b (o + i * (m + 1)) with
      | none => simp [hcell] at this
      | some v => exact cell_lt hcell
     exact ⟨hb', ecs, h6, h5⟩
    obtain ⟨v, l, h3, h4⟩ := hdrop _ rfl
    exact ⟨v, l, h3, h4⟩
   ·cases h
  ·cases h
def fieldsOf (P : Program) (t : TypeId) : Option (List (TypeId × Nat × Nat)) := match P.underlying t with | some (.struct fs) => some (fs.toList.map fun f => (f.type, f.offset, P.cellsOf f.type)) | _ => none
theorem rdg_fields {t n : Nat} {l : List (TypeId × Nat × Nat)} {cs : List Value} {d : DataW H} (hf : fieldsOf P t = some l) (hn : P.cellsOf t = n) (h : Rdg enc P w held t cs d) : cs.length = n ∧
  ∀ (i u o m : Nat), l[i]? = some (u, o, m) → ∃ y, Rdg enc P w held u ((cs.drop o).take m) y := by
 unfold fieldsOf at hf
 split at hf
 ·rename_i fs hu
  obtain rfl := Option.some.inj hf
  obtain ⟨h1, h2⟩ := rdg_struct hu h
  refine ⟨h1.trans hn, fun i u o m hi => ?_⟩
  rw [List.getElem?_map] at hi
  obtain ⟨f, hf', he⟩ := Option.map_eq_some_iff.1 hi
  obtain ⟨hlt, rfl⟩ := List.getElem?_eq_some_iff.1 hf'
  obtain ⟨y, hy⟩ := h2 i hlt
  simp only [Prod.mk.injEq] at he
  obtain ⟨rfl, rfl, rfl⟩ := he
  exact ⟨y, hy⟩
 ·cases hf
theorem I64_wf {n : Int} (h : (Lit.int .i64 n).wf = true) : I64 n := by
 simp only [Lit.wf, Bool.and_eq_true, decide_eq_true_eq] at h
 exact h
theorem U8_wf {n : Int} (h : (Lit.int .u8 n).wf = true) : 0 ≤ n ∧ n ≤ 255 := by
 simp only [Lit.wf, Bool.and_eq_true, decide_eq_true_eq] at h
 exact h
end

/-! The frame of a law's proof. -/
section
open Go.RowKit Go.WideShapes Go.ChangeShapes
variable {H : Type} {enc : TypeId × Value → H} {P : Program}

theorem trodAll_len {w : World} {base : Nat} {sp : Nat → Bool} {held : Bool} : ∀ {ts : List TypeId} {vs : List Value} {ds : List (DataW H)} {ps : List MemPlace}, DataW.TrodAll enc P w base sp held ts vs ds ps → vs.length = ts.length ∧ ds.length = ts.length
 | [], [], [], _, _ => ⟨rfl, rfl⟩
 | t :: ts, v :: vs, d :: ds, ps, h => by
  obtain ⟨p, q, -, h2, -⟩ := h
  have := trodAll_len h2
  simp [this.1, this.2]
 | [], [], _ :: _, _, h => h.elim
 | [], _ :: _, _, _, h => h.elim
 | _ :: _, [], _, _, h => h.elim
 | _ :: _, _ :: _, [], _, h => h.elim
theorem trodAll_stays (hl : laidOutB P = true) {W W' : World} (hb : Below W.heap.size W W') : ∀ {ts : List TypeId} {vs : List Value} {ds : List (DataW H)} {ps : List MemPlace}, (∀ t ∈ ts, P.readableRec t = true ∧ t < P.types.size) →
  DataW.TrodAll enc P W 0 (fun _ => true) true ts vs ds ps → (∀ x ∈ ps, x.block < W.heap.size) → DataW.TrodAll enc P W' 0 (fun b => decide (b < W.heap.size)) true ts vs ds ps
 | [], [], [], _, _, h, _ => h
 | t :: ts, v :: vs, d :: ds, ps, ht, h, hlt => by
  obtain ⟨p, q, h1, h2, rfl⟩ := h
  obtain ⟨r1, r2⟩ := ht t (by simp)
  exact ⟨p, q, Below.trod hl r1 r2 h1 hb (fun x hx => hlt x (by simp [hx])), trodAll_stays hl hb (fun u hu => ht u (by simp [hu])) h2 (fun x hx => hlt x (by simp [hx])), rfl⟩
 | [], [], _ :: _, _, _, h, _ => h.elim
 | [], _ :: _, _, _, _, h, _ => h.elim
 | _ :: _, [], _, _, _, h, _ => h.elim
 | _ :: _, _ :: _, [], _, _, h, _ => h.elim
theorem weightsEach_pre : ∀ {ts us : List TypeId} {ds : List (DataW H)}, ds.length = ts.length → DataW.weightsEach P (ts ++ us) ds = DataW.weightsEach P ts ds
 | [], us, [], _ => by cases us <;> rfl
 | t :: ts, us, d :: ds, h => by
  simp only [List.cons_append, DataW.weightsEach]
  rw [weightsEach_pre (by simpa using h)]
/-- The arguments, read, each in its type's outer form. -/
def Args (enc : TypeId × Value → H) (P : Program) (W : World) (base : Nat) : List TypeId → List Value → List (DataW H) → Prop
 | [], [], [] => True
 | t :: ts, v :: vs, d :: ds => (Value.okWide P W .any base t v ∧ Rdg enc P W true t v.cells.toList d) ∧ Args enc P W base ts vs ds
 | _, _, _ => False
theorem args_cons {W : World} {base : Nat} {t : TypeId} {ts : List TypeId} {vs : List Value} {ds : List (DataW H)} (h : Args enc P W base (t :: ts) vs ds) : ∃ v vs' d, vs = v :: vs' ∧ (Value.okWide P W .any base t v ∧ Rdg enc P W true t v.cells.toList d) ∧ ∃ ds', Args enc P W base ts vs' ds' := by
 cases vs with
 | nil => cases ds <;> exact h.elim
 | cons v vs =>
  cases ds with
  | nil => exact h.elim
  | cons d ds => exact ⟨v, vs, d, rfl, h.1, ds, h.2⟩
theorem args_nil {W : World} {base : Nat} {vs : List Value} {ds : List (DataW H)} (h : Args enc P W base [] vs ds) : vs = [] := by
 cases vs with
 | nil => rfl
 | cons v vs => cases ds <;> exact h.elim
theorem args_of {W : World} {base : Nat} : ∀ {ts : List TypeId} {vs : List Value} {ds : List (DataW H)} {ps : List MemPlace}, (∀ (j : Nat) t v, ts[j]? = some t → vs[j]? = some v → Value.okWide P W .any base t v) →
  DataW.TrodAll enc P W 0 (fun _ => true) true ts vs ds ps → (∀ n ∈ DataW.weightsEach P ts ds, n ≤ reachBytes) → Args enc P W base ts vs ds
 | [], [], [], _, _, _, _ => trivial
 | t :: ts, v :: vs, d :: ds, ps, hv, h, hw => by
  obtain ⟨p, q, ⟨fuel, h1⟩, h2, rfl⟩ := h
  refine ⟨⟨hv 0 t v rfl rfl, ⟨fuel, p, h1⟩, fun n hn => hw n ?_⟩, args_of (fun j t' v' ht hv' => hv (j + 1) t' v' (by simpa using ht) (by simpa using hv')) h2 fun n hn => hw n ?_⟩
  ·simp only [DataW.weightsEach, List.mem_append]; exact .inl hn
  ·simp only [DataW.weightsEach, List.mem_append]; exact .inr hn
 | [], [], _ :: _, _, _, h, _ => h.elim
 | [], _ :: _, _, _, _, h, _ => h.elim
 | _ :: _, [], _, _, _, h, _ => h.elim
 | _ :: _, _ :: _, [], _, _, h, _ => h.elim
theorem law_lift {C : Checked} {os : Os} {k : Nat} {fn : Func} {s : ChangeSpec} {laid : List (String × DataW Unit)} {tb : TypeId} (own : ownKnob C.prog.godebug = none) (started : os.Started) (noInit : C.prog.inits.idxOf? k = none) (hfn : C.prog.funcs[k]? = some fn)
  (witness : ∃ (w : World) (tape : Tape) (i : Input), w.os = os ∧ (w.forCall tape i).Shaped C.prog ∧ i.vars = [] ∧ Input.okWide C.prog (w.forCall tape i) .any w.heap.size k i ∧
   ((s.pre enc C.prog fn [] false (w.forCall tape i).memory i.args ∧ laidMetH C.prog laid (w.forCall tape i).memory) ∧ sizedMet enc C.prog fn (OpenSpec.ofChange s) false (w.forCall tape i).memory i.args) ∧ ({} : Assume).holds C.prog (lone (Frame.enter C.prog k i.args .normal) [] (w.forCall tape i)))
  (hlo : laidOutB C.prog = true) (hpar : fn.params.toList.all (fun t => C.prog.readableRec t && decide (t < C.prog.types.size)) = true)
  (hvars : s.vars = []) (hspec : ∀ ds : List (DataW H), ds.length = fn.params.toList.length → s.fn H (ds ++ []) = { results := [.lit (.bool true)], args := ds })
  (hres : fn.resultTypes = #[tb]) (hbool : C.prog.underlying tb = some .bool)
  (walk : ∀ (W : World) (base : Nat) (args : Array Value) (ds : List (DataW H)), laidMetH C.prog laid W → Args enc C.prog W base fn.params.toList args.toList ds → ClL C.prog k args.toList W.heap fun r H' => r = .bool true ∧ Ext W.heap H') :
  ReturnsInHanded {} C os k .any (fun w args => (s.pre enc C.prog fn [] false w args ∧ laidMetH C.prog laid w) ∧ sizedMet enc C.prog fn (OpenSpec.ofChange s) false w args) (s.post enc C.prog fn false true false false) := by
 refine returnsInHanded_of_change_and (C := C) (X := fun w _ => laidMetH C.prog laid w) (fun _ _ _ hh h => h.of_heap hh) own started noInit hfn witness ?_
 intro W base args ds gs before hval hW _ hsz hL _
 have hW' := hW
 obtain ⟨p, q, hA, hV, rfl, -, -⟩ := hW
 rw [hvars] at hV
 obtain ⟨rfl, rfl⟩ := trodVars_none hV
 obtain ⟨hl1, hl2⟩ := trodAll_len hA
 have hsz' : ∀ n ∈ DataW.weightsEach C.prog fn.params.toList ds, n ≤ reachBytes := by
  intro n hn
  rw [List.append_nil, weightsEach_pre hl2] at hsz
  simpa using List.all_eq_true.1 hsz n hn
 have hargs := args_of (base := base) (fun j t v ht hv => hval j t v (by simpa using ht) (by simpa using hv)) hA hsz'
 obtain ⟨-, hcl⟩ := walk W base args ds hL hargs
 have e : args.toList.toArray = args := by simp
 have hc := hcl W rfl
 rw [e] at hc
 refine hc.mono fun ex W' ⟨hs, v, he, hv, hE⟩ => ⟨v, he, ?_⟩
 subst hv
 have hb : Below W.heap.size W W' := ⟨hs.os, hs.tape, hs.output, hE.1, fun i hi => hE.2 i hi⟩
 have hlt : ∀ x ∈ p, x.block < W.heap.size := fun x hx => hA.lt x hx
 refine ⟨ds, [], p ++ [], [], p, [], hW', ?_, ?_, ?_, ?_, fun h => by cases h⟩
 ·rw [hspec ds hl2, hres]
  exact trodAll_mk1 (shut_bool hbool _)
 ·rw [hspec ds hl2]
  exact trodAll_stays hlo hb (fun t ht => by simpa using List.all_eq_true.1 hpar t ht) hA hlt
 ·rw [hspec ds hl2, hvars]; rfl
 ·refine ⟨hs.os, hs.output, fun i hi => ?_⟩
  rw [hE.2 i hi]
  cases hh : W.heap[i]? with
  | none => trivial
  | some o =>
   cases o with
   | cells c t fr => exact ⟨rfl, rfl, rfl, fun _ _ => rfl⟩
   | map es clock => exact .inr ⟨rfl, rfl⟩
   | _ => rfl
end
end Go.WK
