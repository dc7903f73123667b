/-
  HoldsBytes: for every list of holds and every bytes in memory the function returns true, does not panic and leaves what was there; its condition is the one of its row. Part 4 of 14.
-/
import Derived.Test.YtcafflmhjgnehaaGreatDoorHoldsBytesQ2
import Derived.Laws.Append
set_option linter.unusedSimpArgs false
set_option linter.unusedVariables false
set_option linter.defProp false
set_option maxRecDepth 100000
/-
 Rows of cells that are owned: append.
-/
namespace Go.WK
open Go

def One (cs : List Value) : Prop := ∀ v ∈ cs, v.oneCell' = true
/-- A slice that starts its block, whose room may be written; css are its elements' cells. -/
def Row (M : Nat → Prop) (H : Hp) (k : Nat) (v : Value) (css : List (List Value)) : Prop :=
 (∀ cs ∈ css, cs.length = k ∧ One cs) ∧ ((v = .slice none 0 0 ∧ css = []) ∨ ∃ b c, v = .slice (some ⟨b, 0, none⟩) css.length c ∧ css.length ≤ c ∧ M b ∧ b < H.size ∧ (Own H b 0 (c * k) ∧ ∀ i, frz H b i = false) ∧ ∀ i (hi : i < css.length), rdn H b (i * k) k = some css[i])
theorem Row.nil {M : Nat → Prop} {H : Hp} {k : Nat} : Row M H k (.slice none 0 0) [] := ⟨by simp, .inl ⟨rfl, rfl⟩⟩
theorem frz_block {H H' : Hp} {b : Nat} (h : H'[b]? = H[b]?) (i : Nat) : frz H' b i = frz H b i := by unfold frz; rw [h]
theorem rdn_block {H H' : Hp} {b : Nat} (h : H'[b]? = H[b]?) {o k : Nat} {cs : List Value} (hr : rdn H b o k = some cs) : rdn H' b o k = some cs := by
 obtain ⟨g1, g2⟩ := rdn_spec hr
 exact rdn_of g1 fun j hj => by rw [cell_block h, g2 j hj]
theorem Own_block {H H' : Hp} {b : Nat} (h : H'[b]? = H[b]?) {o n : Nat} (ho : Own H b o n) : Own H' b o n := fun j hj => by
 rw [cell_block h, frz_block h]; exact ho j hj
theorem Row.mono {M M' : Nat → Prop} {H H' : Hp} {k : Nat} {v : Value} {css : List (List Value)} (h : Row M H k v css) (hM : ∀ b, M b → M' b) (hs : H.size ≤ H'.size) (hk : ∀ b, M b → b < H.size → H'[b]? = H[b]?) : Row M' H' k v css := by
 obtain ⟨h0, h⟩ := h
 refine ⟨h0, ?_⟩
 rcases h with h | ⟨b, c, rfl, h1, h2, h3, h4, h5⟩
 ·exact .inl h
 ·have e := hk b h2 h3
  exact .inr ⟨b, c, rfl, h1, hM b h2, by omega, ⟨Own_block e h4.1, fun i => by rw [frz_block e]; exact h4.2 i⟩, fun i hi => rdn_block e (h5 i hi)⟩
theorem rdn_append {H : Hp} {b k : Nat} : ∀ {m n o : Nat} {x y : List Value}, rdn H b o m = some x → rdn H b (o + m) n = some y → rdn H b o (m + n) = some (x ++ y) := by
 intro m n o x y hx hy
 obtain ⟨a1, a2⟩ := rdn_spec hx
 obtain ⟨b1, b2⟩ := rdn_spec hy
 refine rdn_of (by simp [a1, b1]) fun j hj => ?_
 rw [List.getElem?_append]
 split
 ·rename_i h; exact a2 j (by omega)
 ·rename_i h
  have := b2 (j - m) (by omega)
  rw [a1]
  rw [← this]
  congr 1
  omega
theorem rdn_flat {H : Hp} {b k : Nat} : ∀ {css : List (List Value)} {o : Nat}, (∀ i (hi : i < css.length), rdn H b (o + i * k) k = some css[i]) → rdn H b o (css.length * k) = some css.flatten
 | [], o, _ => by simp [rdn]
 | cs :: css, o, h => by
  have h0 := h 0 (by simp)
  simp only [Nat.zero_mul, Nat.add_zero, List.getElem_cons_zero] at h0
  have h1 := @rdn_flat H b k css (o + k) fun i hi => by
   have := h (i + 1) (by simp; omega)
   simp only [List.getElem_cons_succ] at this
   rw [← this]; congr 1; rw [Nat.succ_mul]; omega
  have := rdn_append (k := k) h0 h1
  simp only [List.length_cons, List.flatten_cons]
  rw [Nat.succ_mul, Nat.add_comm]
  exact this
theorem flat_len {k : Nat} : ∀ {css : List (List Value)}, (∀ cs ∈ css, cs.length = k) → css.flatten.length = css.length * k
 | [], _ => by simp
 | cs :: css, h => by
  have := @flat_len k css fun c hc => h c (by simp [hc])
  simp [h cs (by simp), this, Nat.succ_mul]; omega
theorem flat_get {k : Nat} : ∀ {css : List (List Value)}, (∀ cs ∈ css, cs.length = k) → ∀ i (hi : i < css.length) j, j < k → css.flatten[i * k + j]? = css[i][j]?
 | [], _, i, hi, _, _ => by simp at hi
 | cs :: css, h, i, hi, j, hj => by
  have hl := h cs (by simp)
  cases i with
  | zero =>
   simp only [List.flatten_cons, List.getElem_cons_zero, Nat.zero_mul, Nat.zero_add]
   rw [List.getElem?_append_left (by omega)]
  | succ i =>
   simp only [List.flatten_cons, List.getElem_cons_succ]
   rw [List.getElem?_append_right (by rw [hl, Nat.succ_mul]; omega)]
   have := @flat_get k css (fun c hc => h c (by simp [hc])) i (by simpa using hi) j hj
   rw [← this, hl]
   congr 1
   rw [Nat.succ_mul]; omega
theorem flat_one {css : List (List Value)} (h : ∀ cs ∈ css, One cs) : One css.flatten := by
 intro v hv
 obtain ⟨cs, hc, hv⟩ := List.mem_flatten.1 hv
 exact h cs hc v hv
theorem zerosL_len {z : List Value} {n : Nat} : (zerosL z n).length = n * z.length := by simp [zerosL]
theorem mul_lt_of {i n k j : Nat} (hi : i < n) (hj : j < k) : i * k + j < n * k := by
 have : (i + 1) * k ≤ n * k := Nat.mul_le_mul_right k hi
 rw [Nat.succ_mul] at this
 omega
section
variable {M : Nat → Prop} {H : Hp} {k t bytes : Nat} {z : List Value} {κ : Value → Hp → Prop}
theorem app_row {v : Value} {css new : List (List Value)} (hv : Row M H k v css) (hM : ∀ x, M x → x < H.size) (hn : ∀ cs ∈ new, cs.length = k ∧ One cs) (hz : z.length = k) (hb : bytes ≠ 0) (hsz : (css.length + new.length) * bytes ≤ 140737488355328)
  (h : ∀ v' H', Row (fun x => M x ∨ x = H.size) H' k v' (css ++ new) → KeepOn (fun x => ¬ M x) H H' → H'.size ≤ H.size + 1 → κ v' H') {a : Option Addr} {n c : Nat} (ha : v = .slice a n c) :
  @appK H t k bytes z a n c new.length new.flatten ⟨κ⟩ := by
 obtain ⟨h0, hv⟩ := hv
 have hall : ∀ cs ∈ css ++ new, cs.length = k ∧ One cs := fun cs hc => by
  rcases List.mem_append.1 hc with hc | hc
  ·exact h0 cs hc
  ·exact hn cs hc
 have hfl : new.flatten.length = new.length * k := flat_len fun cs hc => (hn cs hc).1
 show appS H κ t k bytes z a n c new.length new.flatten
 have grow : ∀ (old : List (List Value)), old = css → ∀ c', css.length + new.length ≤ c' →
   κ (.slice (some ⟨H.size, 0, none⟩) (css.length + new.length) c') (H.push (.cells (old.flatten ++ new.flatten ++ zerosL z (c' - (css.length + new.length))).toArray t)) := by
  intro old hold c' hc'
  subst hold
  have hol : old.flatten.length = old.length * k := flat_len fun cs hc => (h0 cs hc).1
  have hlen : (old.flatten ++ new.flatten ++ zerosL z (c' - (old.length + new.length))).length = c' * k := by
   simp only [List.length_append, hol, hfl, zerosL_len, hz]
   rw [← Nat.add_mul, ← Nat.add_mul]
   congr 1
   omega
  refine h _ _ ⟨hall, .inr ⟨H.size, c', by rw [List.length_append], by rw [List.length_append]; exact hc', .inr rfl, by simp, ?_, ?_⟩⟩ ⟨by simp, fun b hb _ => by rw [Array.getElem?_push, if_neg (by omega)]⟩ (by simp)
  ·have := Own_new H (old.flatten ++ new.flatten ++ zerosL z (c' - (old.length + new.length))) t
   rw [hlen] at this
   exact ⟨this, fun i => frz_new _ _ _ _⟩
  ·intro i hi
   refine rdn_of (hall _ (List.getElem_mem hi)).1 fun j hj => ?_
   rw [cell_new]
   have hij := mul_lt_of hi hj
   rw [List.length_append] at hij
   rw [List.getElem?_append_left (by rw [List.length_append, hol, hfl, ← Nat.add_mul]; exact hij)]
   rw [← List.flatten_append]
   exact flat_get (fun cs hc => (hall cs hc).1) i hi j hj
 rcases hv with ⟨rfl, rfl⟩ | ⟨b, c0, rfl, hc, hMb, hbs, ⟨hown, hfz⟩, hrd⟩
 ·cases ha
  unfold appS
  split
  ·rename_i hle
   have : new = [] := List.length_eq_zero_iff.1 (by omega)
   subst this
   exact h _ _ Row.nil ⟨Nat.le_refl _, fun _ _ _ => rfl⟩ (by omega)
  ·rename_i hgt
   refine ⟨?_, hb, rfl, fun c' hc' => ?_⟩
   ·exact Nat.le_trans (growslice_fits (by omega) (by simpa using hsz)) (by decide)
   ·have := grow [] rfl c' (by simpa using hc')
    simpa using this
 ·cases ha
  unfold appS
  split
  ·rename_i hle
   have hpos : css.length * k + new.length * k ≤ c * k := by rw [← Nat.add_mul]; exact Nat.mul_le_mul_right k hle
   obtain ⟨H', hw, hW⟩ := wrn_ok (H := H) (b := b) (o := 0 + css.length * k) (l := new.flatten) (fun j hj => by
    have := hown (css.length * k + j) (by omega)
    simpa using this) (flat_one fun cs hc => (hn cs hc).2)
   refine ⟨rfl, ?_⟩
   rw [hw]
   refine h _ _ ⟨hall, .inr ⟨b, c, by rw [List.length_append], by rw [List.length_append]; exact hle, .inl hMb, by rw [hW.size]; exact hbs, ?_, ?_⟩⟩ (hW.keep fun hn => hn hMb) (by rw [hW.size]; omega)
   ·refine ⟨fun j hj => ?_, fun i => by rw [hW.frz]; exact hfz i⟩
    rw [hW.cell, hW.frz]
    refine ⟨?_, (hown j hj).2⟩
    split
    ·rename_i hr
     simp only [Nat.zero_add] at hr
     simp only [Nat.zero_add]
     rw [List.getElem?_eq_getElem (by omega)]; rfl
    ·exact (hown j hj).1
   ·intro i hi
    refine rdn_of (hall _ (List.getElem_mem hi)).1 fun j hj => ?_
    have hij := mul_lt_of hi hj
    rw [List.length_append, Nat.add_mul] at hij
    rw [hW.cell]
    by_cases hic : i < css.length
    ·have h1 := mul_lt_of hic hj
     rw [if_neg (by omega)]
     have := (rdn_spec (hrd i hic)).2 j hj
     rw [this, List.getElem_append_left hic]
    ·rw [if_pos (by
      have : css.length * k ≤ i * k := Nat.mul_le_mul_right k (by omega)
      rw [hfl]; omega)]
     have hi' : i < css.length + new.length := by simpa using hi
     have h1 := flat_get (fun cs hc => (hn cs hc).1) (i - css.length) (by omega) j hj
     rw [List.getElem_append_right (by omega), ← h1]
     congr 1
     have : i * k = css.length * k + (i - css.length) * k := by rw [← Nat.add_mul]; congr 1; omega
     omega
  ·rename_i hgt
   refine ⟨?_, hb, rfl, ?_⟩
   ·exact Nat.le_trans (growslice_fits (by omega) hsz) (by decide)
   ·have hr : rdn H b 0 (css.length * k) = some css.flatten := rdn_flat fun i hi => by rw [Nat.zero_add]; exact hrd i hi
    rw [hr]
    exact fun c' hc' => grow css rfl c' hc'
end

theorem choose_list {β : Type} {P : Nat → β → Prop} : ∀ {n : Nat}, (∀ i, i < n → ∃ b, P i b) → ∃ l : List β, l.length = n ∧ ∀ i (hi : i < l.length), P i l[i]
 | 0, _ => ⟨[], rfl, fun i hi => by simp at hi⟩
 | n + 1, h => by
  obtain ⟨l, hl, hp⟩ := choose_list fun i hi => h i (Nat.lt_succ_of_lt hi)
  obtain ⟨b, hb⟩ := h n (Nat.lt_succ_self n)
  refine ⟨l ++ [b], by simp [hl], fun i hi => ?_⟩
  by_cases hin : i < l.length
  ·rw [List.getElem_append_left hin]; exact hp i hin
  ·have : i = l.length := by simp at hi; omega
   subst this
   simp
   rw [hl]; exact hb
theorem appSrc_0 {H : Hp} {k c : Nat} {a : Option Addr} : appSrc H k (.slice a 0 c) = some (0, []) := by
 cases a with
 | none => rfl
 | some p => simp [appSrc, rdn]
theorem SlP.rows {α : Type} {S : Nat → Prop} {H : Hp} {k : Nat} {El : List Value → α → Prop} {v : Value} {l : List α} (h : SlP S H k El v l) : ∃ (css : List (List Value)) (a : Option Addr) (c : Nat), css.length = l.length ∧ v = .slice a l.length c ∧ appSrc H k (.slice a l.length c) = .some (css.length, css.flatten) ∧
  ∀ i (hi : i < css.length) (hl : i < l.length), El css[i] l[i] ∧ css[i].length = k := by
 obtain ⟨h0, ⟨wa, rfl, rfl⟩ | ⟨b, o, c, rfl, hc, h⟩⟩ := h
 ·exact ⟨[], wa, 0, rfl, rfl, appSrc_0, fun i hi => by simp at hi⟩
 ·obtain ⟨css, hlen, hp⟩ := choose_list (P := fun i cs => ∃ hi : i < l.length, rdn H b (o + i * k) k = .some cs ∧ El cs l[i]) fun i hi => by
   obtain ⟨_, cs, h1, h2⟩ := h i hi
   exact ⟨cs, hi, h1, h2⟩
  refine ⟨css, _, c, hlen, rfl, ?_, fun i hi hl => ?_⟩
  ·simp only [appSrc, if_true]
   rw [← hlen, rdn_flat fun i hi => (hp i hi).2.1]
   rfl
  ·obtain ⟨_, h1, h2⟩ := hp i hi
   exact ⟨h2, (rdn_spec h1).1⟩
theorem Row.slp {α : Type} {M : Nat → Prop} {H : Hp} {k : Nat} {El : List Value → α → Prop} {v : Value} {css : List (List Value)} {l : List α} (h : Row M H k v css) (hl : css.length = l.length) (hb : l.length ≤ big) (hE : ∀ i (hi : i < css.length) (hl : i < l.length), El css[i] l[i]) : SlP M H k El v l := by
 refine ⟨hb, ?_⟩
 obtain ⟨h0, ⟨rfl, rfl⟩ | ⟨b, c, rfl, h1, h2, h3, h4, h5⟩⟩ := h
 ·exact .inl ⟨_, rfl, List.length_eq_zero_iff.1 hl.symm⟩
 ·refine .inr ⟨b, 0, c, by rw [hl], by omega, fun i hi => ⟨h2, css[i], by rw [Nat.zero_add]; exact h5 i (by omega), hE i (by omega) hi⟩⟩
theorem appK_mono {H : Hp} {t k bytes : Nat} {z : List Value} {a : Option Addr} {n c m : Nat} {l : List Value} {κ κ' : Value → Hp → Prop} (h : @appK H t k bytes z a n c m l ⟨κ⟩) (hk : ∀ v H, κ v H → κ' v H) : @appK H t k bytes z a n c m l ⟨κ'⟩ := by
 show appS H κ' t k bytes z a n c m l
 have h : appS H κ t k bytes z a n c m l := h
 have os : ∀ {α : Type} {x : Option α} {p q : α → Prop}, (∀ a, p a → q a) → onSome x p → onSome x q := by
  intro α x p q hpq hh; cases x with | none => exact hh | some a => exact hpq a hh
 unfold appS at h ⊢
 split
 ·rename_i hc
  rw [if_pos hc] at h
  cases a with
  | none => exact hk _ _ h
  | some p => exact ⟨h.1, os (fun _ => hk _ _) h.2⟩
 ·rename_i hc
  rw [if_neg hc] at h
  refine ⟨h.1, h.2.1, ?_⟩
  have h3 := h.2.2
  cases a with
  | none => exact ⟨h3.1, fun c' hc' => hk _ _ (h3.2 c' hc')⟩
  | some p => exact ⟨h3.1, os (fun _ h c' hc' => hk _ _ (h c' hc')) h3.2⟩
theorem ElAc.one {cs : List Value} {a : Ac} (h : ElAc cs a) : One cs := by
 obtain ⟨rfl, _⟩ := h
 intro v hv
 simp at hv
 rcases hv with rfl | rfl | rfl | rfl <;> rfl
theorem ElRd.one {cs : List Value} {a : Rd} (h : ElRd cs a) : One cs := by
 obtain ⟨rfl, _⟩ := h
 intro v hv
 simp at hv
 rcases hv with rfl | rfl | rfl <;> rfl
theorem ElHd.one {S : Nat → Prop} {H : Hp} {cs : List Value} {a : Hd} (h : ElHd S H cs a) : One cs := by
 obtain ⟨va, vr, rfl, h1, h2, _⟩ := h
 obtain ⟨x1, c1, rfl, _⟩ := h1.form
 obtain ⟨x2, c2, rfl, _⟩ := h2.form
 intro v hv
 simp at hv
 rcases hv with rfl | rfl | rfl | rfl | rfl | rfl | rfl <;> rfl
theorem ElHd.len {S : Nat → Prop} {H : Hp} {cs : List Value} {a : Hd} (h : ElHd S H cs a) : cs.length = 7 := by
 obtain ⟨va, vr, rfl, _⟩ := h; rfl
/-- Holds in a row: M is the row's block, G are the blocks within. -/
def RowHd (M G : Nat → Prop) (H : Hp) (v : Value) (l : List Hd) : Prop := ∃ css, Row M H 7 v css ∧ css.length = l.length ∧ ∀ i (hi : i < css.length) (hl : i < l.length), ElHd G H css[i] l[i]
theorem RowHd.nil {M G : Nat → Prop} {H : Hp} : RowHd M G H (.slice none 0 0) [] := ⟨[], Row.nil, rfl, fun i hi => by simp at hi⟩
theorem RowHd.slp {M G : Nat → Prop} {H : Hp} {v : Value} {l : List Hd} (h : RowHd M G H v l) (hb : l.length ≤ big) : HdSl (fun x => M x ∨ G x) H v l := by
 obtain ⟨css, h1, h2, h3⟩ := h
 refine SlP.mono (H' := H) (h1.slp h2 hb h3) (fun b hb => .inl hb) (fun _ _ _ => rfl) fun cs a _ he => he.mono (fun b hb => .inr hb) fun _ _ _ => rfl
theorem RowHd.mono {M M' G G' : Nat → Prop} {H H' : Hp} {v : Value} {l : List Hd} (h : RowHd M G H v l) (hM : ∀ b, M b → M' b) (hG : ∀ b, G b → G' b) (hs : H.size ≤ H'.size) (hk : ∀ b, M b ∨ G b → b < H.size → H'[b]? = H[b]?) : RowHd M' G' H' v l := by
 obtain ⟨css, h1, h2, h3⟩ := h
 exact ⟨css, h1.mono hM hs fun b hb => hk b (.inl hb), h2, fun i hi hl => (h3 i hi hl).mono hG fun b hb => hk b (.inr hb)⟩
theorem Row.lt {M : Nat → Prop} {H : Hp} {k : Nat} {v : Value} {css : List (List Value)} (h : Row M H k v css) : Row (fun x => M x ∧ x < H.size) H k v css := by
 obtain ⟨h0, h⟩ := h
 refine ⟨h0, ?_⟩
 rcases h with h | ⟨b, c, rfl, h1, h2, h3, h4⟩
 ·exact .inl h
 ·exact .inr ⟨b, c, rfl, h1, ⟨h2, h3⟩, h3, h4⟩
theorem Row.empty {H : Hp} {k t : Nat} : Row (fun x => x = H.size) (H.push (.cells #[] t)) k (.slice (some ⟨H.size, 0, none⟩) 0 0) [] :=
 ⟨by simp, .inr ⟨H.size, 0, rfl, Nat.le_refl _, rfl, by simp, ⟨fun j hj => by omega, fun i => frz_new H [] t i⟩, fun i hi => by simp at hi⟩⟩
theorem SlP.lt {α : Type} {S : Nat → Prop} {H : Hp} {k : Nat} (hk : 0 < k) {El : List Value → α → Prop} {v : Value} {l : List α} (h : SlP S H k El v l) : SlP (fun x => S x ∧ x < H.size) H k El v l := by
 obtain ⟨h0, h⟩ := h
 refine ⟨h0, ?_⟩
 rcases h with h | ⟨b, o, c, e, hc, h⟩
 ·exact .inl h
 ·refine .inr ⟨b, o, c, e, hc, fun i hi => ?_⟩
  obtain ⟨hs, cs, h1, h2⟩ := h i hi
  refine ⟨⟨hs, ?_⟩, cs, h1, h2⟩
  obtain ⟨g1, g2⟩ := rdn_spec h1
  have h0 := g2 0 hk
  rw [List.getElem?_eq_getElem (by omega)] at h0
  exact cell_lt h0
abbrev zHold : List Value := [.string .empty, .int .i64 0, .int .i64 0, .slice none 0 0, .slice none 0 0, .bool false, .string .empty]
theorem app1 {M G G2 : Nat → Prop} {v : Value} {L : List Hd} {cs : List Value} {h : Hd} {HA HB : Hp} {κ : Value → Hp → Prop}
  (hrow : RowHd M G HA v L) (hMG : ∀ x, M x → ¬ G x) (hlt : ∀ x, M x ∨ G x → x < HA.size) (hE : Ext HA HB) (he : ElHd G2 HB cs h) (hG2 : ∀ x, G2 x → ¬ M x) (hsz : L.length ≤ 1048576)
  (hk : ∀ v' H', RowHd (fun x => (M x ∨ x = HB.size) ∧ x < H'.size) (fun x => G x ∨ G2 x) H' v' (L ++ [h]) → KeepOn (fun x => ¬ M x) HB H' → κ v' H') {a : Option Addr} {n c : Nat} (ha : v = .slice a n c) :
  @appK HB 35 7 104 zHold a n c 1 cs ⟨κ⟩ := by
 obtain ⟨css, hr, hl, hel⟩ := hrow
 have hr' : Row M HB 7 v css := hr.mono (fun _ h => h) hE.size fun b hb hb' => hE.2 b hb'
 have hcs7 := he.len
 have hcs : cs = [cs].flatten := by simp
 have hlen1 : (1 : Nat) = [cs].length := rfl
 rw [hcs, hlen1]
 refine app_row (M := M) (css := css) (new := [cs]) (k := 7) (bytes := 104) (z := zHold) hr' (fun x hx => Nat.lt_of_lt_of_le (hlt x (.inl hx)) hE.size) ?_ rfl (by decide) (by simp; omega) ?_ ha
 ·intro c hc
  simp at hc
  subst hc
  exact ⟨hcs7, he.one⟩
 ·intro v' H' hrow' hkeep _
  refine hk v' H' ⟨css ++ [cs], hrow'.lt, by simp [hl], fun i hi hl' => ?_⟩ hkeep
  by_cases hic : i < css.length
  ·rw [List.getElem_append_left hic, List.getElem_append_left (by omega)]
   refine (hel i hic (by omega)).mono (fun b hb => .inl hb) fun b hb hb' => ?_
   rw [hkeep.2 b (Nat.lt_of_lt_of_le hb' hE.size) (fun hM => hMG b hM hb), hE.2 b hb']
  ·have hic' : i = css.length := by simp at hi; omega
   subst hic'
   have e1 : (css ++ [cs])[css.length]'hi = cs := by simp
   have e2 : (L ++ [h])[css.length]'hl' = h := by simp [hl]
   rw [e1, e2]
   exact he.mono (fun b hb => .inr hb) fun b hb hb' => hkeep.2 b hb' (hG2 b hb)
theorem Wrote.rdn_off {H H' : Hp} {b o o' n : Nat} {l x : List Value} (h : Wrote H b o l H') (hd : o' + n ≤ o ∨ o + l.length ≤ o') (hr : rdn H b o' n = some x) : rdn H' b o' n = some x := by
 obtain ⟨g1, g2⟩ := rdn_spec hr
 refine rdn_of g1 fun j hj => ?_
 rw [h.cell, if_neg (by omega), g2 j hj]
theorem Wrote.rdn_at {H H' : Hp} {b o : Nat} {l : List Value} (h : Wrote H b o l H') : rdn H' b o l.length = some l := by
 refine rdn_of rfl fun j hj => ?_
 rw [h.cell, if_pos (by omega)]
 congr 1; omega
theorem Wrote.own {H H' : Hp} {b o o' n c : Nat} {l : List Value} (h : Wrote H b o l H') (ho : Own H c o' n) : Own H' c o' n := by
 intro j hj
 have := ho j hj
 rw [h.frz]
 refine ⟨?_, this.2⟩
 by_cases hc : c = b
 ·subst hc
  rw [h.cell]
  split
  ·rename_i hr
   rw [List.getElem?_eq_getElem (by omega)]; rfl
  ·exact this.1
 ·rw [cell_other h hc]; exact this.1
theorem zHold_one (n : Nat) : ∀ v ∈ zerosL zHold n, v.oneCell' = true := by
 intro v hv
 simp only [zerosL, List.mem_map] at hv
 obtain ⟨i, _, rfl⟩ := hv
 have h7 : i % 7 < 7 := Nat.mod_lt _ (by decide)
 have hl : zHold.length = 7 := rfl
 rw [hl]
 generalize i % 7 = m at h7
 match m, h7 with
 | 0, _ => rfl
 | 1, _ => rfl
 | 2, _ => rfl
 | 3, _ => rfl
 | 4, _ => rfl
 | 5, _ => rfl
 | 6, _ => rfl
theorem Own.sub {H : Hp} {b o n o' n' : Nat} (h : Own H b o n) (h1 : o ≤ o') (h2 : o' + n' ≤ o + n) : Own H b o' n' := fun j hj => by
 have := h (o' - o + j) (by omega)
 rwa [show o + (o' - o + j) = o' + j by omega] at this
end Go.WK
/-
 Maps whose keys are texts.
-/
namespace Go.WK
open Go

def MapS (H : Hp) (r : Nat) (ks : List ByteArray) : Prop := ∃ es ck, H[r]? = some (.map es ck) ∧ es.toList.map (·.key) = ks.map Value.string
theorem MapS.block {H H' : Hp} {r : Nat} {ks : List ByteArray} (h : MapS H r ks) (e : H'[r]? = H[r]?) : MapS H' r ks := by
 obtain ⟨es, ck, h1, h2⟩ := h
 exact ⟨es, ck, e.trans h1, h2⟩
theorem MapS.lt {H : Hp} {r : Nat} {ks : List ByteArray} (h : MapS H r ks) : r < H.size := by
 obtain ⟨es, ck, h1, _⟩ := h
 rcases Nat.lt_or_ge r H.size with h | h
 ·exact h
 ·rw [Array.getElem?_eq_none h] at h1; cases h1
theorem MapS_new (H : Hp) : MapS (H.push (.map #[] 0)) H.size [] := ⟨#[], 0, by simp, rfl⟩
theorem findE_str {x : ByteArray} : ∀ {es : List MapEntry} {ks : List ByteArray} {i : Nat}, es.map (·.key) = ks.map Value.string → (x ∉ ks ∧ findE (.string x) es i = none) ∨ (x ∈ ks ∧ ∃ j v, findE (.string x) es i = some (j, v))
 | [], [], i, _ => .inl ⟨by simp, rfl⟩
 | [], k :: ks, i, h => by simp at h
 | e :: es, [], i, h => by simp at h
 | e :: es, k :: ks, i, h => by
  simp only [List.map_cons, List.cons.injEq] at h
  by_cases hx : x = k
  ·refine .inr ⟨by simp [hx], i, e.val, ?_⟩
   unfold findE
   rw [h.1]
   simp [keyEq, hx]
  ·have hk : keyEq (.string x) e.key = false := by rw [h.1]; simp [keyEq, hx]
   rcases @findE_str x es ks (i + 1) h.2 with ⟨h1, h2⟩ | ⟨h1, j, v, h2⟩
   ·exact .inl ⟨by simp [hx, h1], by unfold findE; rw [hk]; simpa using h2⟩
   ·exact .inr ⟨by simp [h1], j, v, by unfold findE; rw [hk]; simpa using h2⟩
theorem MapS.keys {H : Hp} {r : Nat} {ks : List ByteArray} {es : Array MapEntry} {ck : Nat} (h : es.toList.map (·.key) = ks.map Value.string) : ∀ e ∈ es, key? .s e.key = true := by
 intro e he
 have : e.key ∈ es.toList.map (·.key) := List.mem_map.2 ⟨e, by simpa using he, rfl⟩
 rw [h] at this
 obtain ⟨k, _, hk⟩ := List.mem_map.1 this
 rw [← hk]; rfl
theorem map_modify {es : Array MapEntry} {i : Nat} {k v : Value} (h : ∀ e, es[i]? = some e → e.key = k) : ((es.modify i fun e => { e with key := k, val := v }).toList.map (·.key)) = es.toList.map (·.key) := by
 apply List.ext_getElem?
 intro j
 simp only [List.getElem?_map, Array.getElem?_toList, Array.getElem?_modify]
 by_cases hij : i = j
 ·subst hij
  rw [if_pos rfl]
  cases he : es[i]? with
  | none => rfl
  | some e => simp [h e he]
 ·rw [if_neg hij]
theorem findE_at' {k : Value} : ∀ {es : List MapEntry} {i j : Nat} {v : Value}, findE k es i = some (j, v) → i ≤ j ∧ ∃ e, es[j - i]? = some e ∧ keyEq k e.key = true
 | [], i, j, v, h => by cases h
 | e :: es, i, j, v, h => by
  unfold findE at h
  split at h
  ·rename_i hk
   simp only [Option.some.injEq, Prod.mk.injEq] at h
   obtain ⟨rfl, rfl⟩ := h
   exact ⟨Nat.le_refl _, e, by simp, hk⟩
  ·obtain ⟨h1, e', h2, h3⟩ := findE_at' h
   refine ⟨by omega, e', ?_, h3⟩
   rw [show j - i = (j - (i + 1)) + 1 by omega]
   simpa using h2
theorem setB {H : Hp} {r : Nat} {x : Obj} : (H.setIfInBounds r x).size = H.size ∧ ∀ b, b ≠ r → (H.setIfInBounds r x)[b]? = H[b]? :=
 ⟨by simp, fun b hb => by rw [Array.getElem?_setIfInBounds, if_neg (fun e => hb e.symm)]⟩
theorem setB_at {H : Hp} {r : Nat} {x : Obj} (h : r < H.size) : (H.setIfInBounds r x)[r]? = some x := by rw [Array.getElem?_setIfInBounds, if_pos rfl, if_pos h]
theorem mup_s {P : Program} {m k v : Operand} {ρ : Operand → Value} {H : Hp} {r : Nat} {ks : List ByteArray} {x : ByteArray} {κ : Value → Hp → Prop} (hm : ρ m = .map (some r)) (hk : ρ k = .string x) (hM : MapS H r ks)
  (hold : x ∈ ks → ∀ H', MapS H' r ks → H'.size = H.size → (∀ b, b ≠ r → H'[b]? = H[b]?) → κ undef H') (hnew : x ∉ ks → ∀ H', MapS H' r (ks ++ [x]) → H'.size = H.size → (∀ b, b ≠ r → H'[b]? = H[b]?) → κ undef H') : isem P (.mup .s m k v) ρ H κ := by
 have hlt := hM.lt
 obtain ⟨es, ck, h1, h2⟩ := hM
 simp only [isem, hm, hk, h1]
 refine ⟨rfl, MapS.keys (H := H) (r := r) (ck := ck) h2, ?_⟩
 rcases findE_str (x := x) (i := 0) h2 with ⟨g1, g2⟩ | ⟨g1, j, w, g2⟩
 ·rw [g2]
  refine hnew g1 _ ?_ setB.1 setB.2
  refine ⟨_, _, setB_at hlt, ?_⟩
  simp [h2]
 ·rw [g2]
  refine hold g1 _ ?_ setB.1 setB.2
  refine ⟨_, _, setB_at hlt, ?_⟩
  rw [map_modify ?_, h2]
  intro e he
  obtain ⟨_, e', h3, h4⟩ := findE_at' g2
  have : e' = e := by
   rw [Nat.sub_zero, Array.getElem?_toList, he] at h3
   simpa using h3.symm
  subst this
  have hmem : e'.key ∈ es.toList.map (·.key) := List.mem_map.2 ⟨e', by simpa using Array.mem_of_getElem? he, rfl⟩
  rw [h2] at hmem
  obtain ⟨y, _, hy⟩ := List.mem_map.1 hmem
  rw [← hy] at h4 ⊢
  simp [keyEq] at h4
  rw [h4]
theorem mlen_s {P : Program} {m : Operand} {ρ : Operand → Value} {H : Hp} {r : Nat} {ks : List ByteArray} {κ : Value → Hp → Prop} (hm : ρ m = .map (some r)) (hM : MapS H r ks) (h : κ (.int .i64 ks.length) H) : isem P (.mlen m) ρ H κ := by
 obtain ⟨es, ck, h1, h2⟩ := hM
 simp only [isem, hm, h1]
 have : es.size = ks.length := by
  have := congrArg List.length h2
  simpa using this
 rw [this]
 exact h
end Go.WK
