/-
  HoldsSpans: holds of a table in the document's shape, spans of them, taken and put back, written and read again. Part 13 of 14.
-/
import Derived.Test.YtcafflmhjgnehaaGreatDoorHoldsSpansQ11
set_option linter.unusedSimpArgs false
set_option linter.unusedVariables false
set_option linter.defProp false
set_option maxRecDepth 100000
/-
  What is written is read again.
-/
namespace Go.WK
open Go Go.Proofs

theorem numD_numE : ∀ (j n k acc : Nat) (rest : List UInt8), j + k = 9 → n < 128 ^ j → k < 9 → (0 < k → 0 < n) → numD k acc (numE n ++ rest) = some (acc + n * 128 ^ k, rest) := by
  intro j
  induction j with
  | zero => intro n k acc rest hj _ hk; omega
  | succ j ih =>
    intro n k acc rest hj hn hk h0
    by_cases h : n ≤ 127
    · rw [numE_s h]
      have e : (UInt8.ofNat n).toNat = n := by rw [UInt8.toNat_ofNat']; omega
      have e2 : n % 128 = n := Nat.mod_eq_of_lt (by omega)
      simp only [List.cons_append, List.nil_append, numD, e]
      rw [if_neg (by omega), if_pos (by omega), if_neg (by omega), e2]
    · rw [numE_l h]
      have e : (UInt8.ofNat (n % 128 + 128)).toNat = n % 128 + 128 := by rw [UInt8.toNat_ofNat']; omega
      have e2 : (n % 128 + 128) % 128 = n % 128 := by omega
      simp only [List.cons_append, numD, e]
      rw [if_neg (by omega), if_neg (by omega), e2]
      have hj0 : j ≠ 0 := fun e => by subst e; simp at hn; omega
      rw [ih (n / 128) (k + 1) _ rest (by omega) (by rw [Nat.pow_succ] at hn; omega) (by omega) (fun _ => by omega)]
      have e3 : n = n % 128 + 128 * (n / 128) := by omega
      have e4 : n * 128 ^ k = n % 128 * 128 ^ k + n / 128 * 128 ^ (k + 1) := by
        conv => lhs; rw [e3]
        rw [Nat.add_mul, Nat.pow_succ, Nat.mul_comm 128 (n / 128), Nat.mul_assoc, Nat.mul_comm 128 (128 ^ k)]
      rw [e4]
      congr 2
      omega
theorem numR_E {n : Nat} {most : Int} {rest : List UInt8} (h : n ≤ 4611686018427387903) (hm : (n : Int) ≤ most) : numR most (some (numE n ++ rest)) = ((n : Int), some rest) := by
  have := numD_numE 9 n 0 0 rest rfl (by have : (128 : Nat) ^ 9 = 9223372036854775808 := by decide
                                         omega) (by omega) (fun h => by omega)
  simp only [numR, this, Nat.pow_zero, Nat.mul_one, Nat.zero_add]
  rw [if_neg (by omega)]
theorem numsR_E {x : Int} {most : Int} {rest : List UInt8} (h0 : 0 ≤ x) (h : x ≤ 4611686018427387903) (hm : x ≤ most) : numR most (some (numsE [x] ++ rest)) = (x, some rest) := by
  have hk : numOk x = true := by simp [numOk, h0, h]
  have e : numsE [x] = numE x.toNat := by simp [numsE, hk]
  rw [e, numR_E (by omega) (by omega)]
  rw [Int.toNat_of_nonneg h0]
theorem flagR_E (b : Bool) (rest : List UInt8) : flagR (some (flagE b :: rest)) = (b, some rest) := by
  cases b <;> rfl
theorem textR_E {s : ByteArray} {most : Int} {rest : List UInt8} (h : s.size ≤ 4611686018427387903) (hm : (s.size : Int) ≤ most) : textR most (some (textE s ++ rest)) = (s, some rest) := by
  have hl : s.data.toList.length = s.size := Array.length_toList
  have e : numR most (some (textE s ++ rest)) = ((s.size : Int), some (s.data.toList ++ rest)) := by
    unfold textE rowE
    rw [hl, List.append_assoc]
    exact numR_E h hm
  have e2 : rowR most (some (textE s ++ rest)) = (s.data.toList, some rest) := by
    simp only [rowR, e, Int.toNat_natCast]
    rw [if_neg (by simp [hl]), List.take_left' hl, List.drop_left' hl]
  simp only [textR, e2]
theorem absI_val {n : Int} (h1 : -1073741824 ≤ n) (h2 : n ≤ 1073741824) : absI n = if n < 0 then -n else n := by
  unfold absI
  rw [wr64 (by omega) (by omega)]
  split <;> omega
theorem actB_bd {a : Ac} (h : actB a = true) : 0 ≤ a.kind ∧ a.kind ≤ 3 ∧ a.value.size ≤ 20 ∧ -1073741824 ≤ a.num ∧ a.num ≤ 1073741824 := by
  have hc : a.num = cutI a.num → -1073741824 ≤ a.num ∧ a.num ≤ 1073741824 := fun e => by unfold cutI at e; omega
  simp only [actB, Bool.and_eq_true] at h
  obtain ⟨-, h⟩ := h
  split at h
  · simp only [Bool.and_eq_true, decide_eq_true_eq] at h
    obtain ⟨h1, h2⟩ := h
    rw [h1, h2]
    simp; omega
  · split at h
    · simp only [Bool.and_eq_true, decide_eq_true_eq] at h
      obtain ⟨⟨h1, -⟩, h2⟩ := h
      rw [h2]
      omega
    · split at h
      · simp only [Bool.and_eq_true, decide_eq_true_eq] at h
        obtain ⟨h1, h2⟩ := h
        have := hc h2
        rw [h1]
        simp; omega
      · cases h
theorem actR_E {a : Ac} {key : ByteArray} {rest : List UInt8} (h : actB a = true) (hk : a.key = key) : actR key (some (actE a ++ rest)) = ((a, true), some rest) := by
  obtain ⟨h1, h2, h3, h4, h5⟩ := actB_bd h
  have e1 : numR 3 (some (actE a ++ rest)) = (a.kind, some (textE a.value ++ ([flagE (decide (a.num < 0))] ++ (numsE [absI a.num] ++ rest)))) := by
    unfold actE
    simp only [List.append_assoc]
    exact numsR_E h1 (by omega) (by omega)
  have e2 : textR 20 (some (textE a.value ++ ([flagE (decide (a.num < 0))] ++ (numsE [absI a.num] ++ rest)))) = (a.value, some ([flagE (decide (a.num < 0))] ++ (numsE [absI a.num] ++ rest))) := textR_E (by omega) (by omega)
  have e3 : flagR (some ([flagE (decide (a.num < 0))] ++ (numsE [absI a.num] ++ rest))) = (decide (a.num < 0), some (numsE [absI a.num] ++ rest)) := flagR_E _ _
  have ha := absI_val h4 h5
  have e4 : numR 1073741824 (some (numsE [absI a.num] ++ rest)) = (absI a.num, some rest) := numsR_E (by rw [ha]; split <;> omega) (by rw [ha]; split <;> omega) (by rw [ha]; split <;> omega)
  simp only [actR, e1, e2, e3, e4]
  subst hk
  cases a with
  | mk kind key value num =>
    simp only at *
    by_cases hn : num < 0
    · simp only [hn, decide_true, if_true] at ha ⊢
      rw [ha]
      simp; omega
    · simp only [hn, decide_false, if_false] at ha ⊢
      rw [ha]
      simp
theorem actsL_E {key : ByteArray} {rest : List UInt8} : ∀ (xs l : List Ac) (ok : Bool), (∀ a ∈ xs, actB a = true ∧ a.key = key) → actsL key xs.length l ok (some (xs.flatMap actE ++ rest)) = ((l ++ xs, ok), some rest)
  | [], l, ok, _ => by simp [actsL]
  | a :: xs, l, ok, h => by
    have ha := h a (by simp)
    rw [List.length_cons, actsL, List.flatMap_cons, List.append_assoc, actR_E ha.1 ha.2]
    simp only [Bool.and_true]
    rw [actsL_E xs _ _ fun x hx => h x (by simp [hx])]
    simp
theorem readR_E {r : Rd} {key : ByteArray} {rest : List UInt8} (h : r.value.size ≤ 20) (hk : r.key = key) : readR key (some (readE r ++ rest)) = (r, some rest) := by
  have e1 : flagR (some (readE r ++ rest)) = (r.is, some (textE r.value ++ rest)) := by
    unfold readE
    simp only [List.append_assoc]
    exact flagR_E _ _
  have e2 : textR 20 (some (textE r.value ++ rest)) = (r.value, some rest) := textR_E (by omega) (by omega)
  simp only [readR, e1, e2]
  subst hk
  rfl
theorem readsL_E {key : ByteArray} {rest : List UInt8} : ∀ (xs l : List Rd), (∀ a ∈ xs, a.value.size ≤ 20 ∧ a.key = key) → readsL key xs.length l (some (xs.flatMap readE ++ rest)) = (l ++ xs, some rest)
  | [], l, _ => by simp [readsL]
  | a :: xs, l, h => by
    have ha := h a (by simp)
    rw [List.length_cons, readsL, List.flatMap_cons, List.append_assoc, readR_E ha.1 ha.2]
    simp only
    rw [readsL_E xs _ fun x hx => h x (by simp [hx])]
    simp
theorem numsE3 (a b c : Int) : numsE [a, b, c] = numsE [a] ++ (numsE [b] ++ numsE [c]) := by
  have : ([a, b, c] : List Int) = [] ++ [a] ++ [b] ++ [c] := rfl
  rw [this, numsE_snoc, numsE_snoc, numsE_snoc]
  simp [numsE]
  split <;> split <;> split <;> simp_all
theorem hdR_E {h : Hd} {rest : List UInt8} (hr : rightB h = true) : hdR (some (holdE h ++ rest)) = ((h, true), some rest) := by
  have hr0 := hr
  obtain ⟨sa, sr⟩ := rightB_small hr
  have hkey := right_key hr
  have hks : h.key.size ≤ 20 := by simp only [isKey, Bool.and_eq_true, decide_eq_true_eq] at hkey; exact hkey.1.2
  simp only [rightB, actsB, Bool.and_eq_true, decide_eq_true_eq, List.all_eq_true] at hr
  obtain ⟨⟨⟨⟨⟨⟨⟨h1, hnm⟩, ⟨h2, -⟩, h3⟩, hrd⟩, -⟩, -⟩, hvs⟩, -⟩ := hr
  simp only [nameB, Bool.and_eq_true, decide_eq_true_eq] at hnm
  have hrd' : ∀ r ∈ h.reads, r.value.size ≤ 20 ∧ r.key = h.key := fun r hx => by
    simp only [Bool.not_eq_true', List.any_eq_false] at hrd
    have := hrd r hx
    simp only [readBad, Bool.or_eq_true, not_or, Bool.not_eq_true', decide_eq_true_eq, decide_eq_false_iff_not, Decidable.not_not] at this
    exact ⟨by omega, this.1.1⟩
  have e0 : holdE h ++ rest = textE h.key ++ (numsE [h.name.client] ++ (numsE [h.name.num] ++ (numsE [(h.acts.length : Int)] ++ (h.acts.flatMap actE ++ (numsE [(h.reads.length : Int)] ++ (h.reads.flatMap readE ++ (flagE h.put :: (textE h.value ++ rest)))))))) := by
    unfold holdE
    rw [numsE3]
    simp only [List.append_assoc, List.cons_append, List.nil_append]
  rw [e0]
  have t1 := textR_E (most := 20) (s := h.key) (rest := numsE [h.name.client] ++ (numsE [h.name.num] ++ (numsE [(h.acts.length : Int)] ++ (h.acts.flatMap actE ++ (numsE [(h.reads.length : Int)] ++ (h.reads.flatMap readE ++ (flagE h.put :: (textE h.value ++ rest)))))))) (by omega) (by omega)
  have t2 := numsR_E (most := 8) (x := h.name.client) (rest := numsE [h.name.num] ++ (numsE [(h.acts.length : Int)] ++ (h.acts.flatMap actE ++ (numsE [(h.reads.length : Int)] ++ (h.reads.flatMap readE ++ (flagE h.put :: (textE h.value ++ rest))))))) (by omega) (by omega) (by omega)
  have t3 := numsR_E (most := 1073741824) (x := h.name.num) (rest := numsE [(h.acts.length : Int)] ++ (h.acts.flatMap actE ++ (numsE [(h.reads.length : Int)] ++ (h.reads.flatMap readE ++ (flagE h.put :: (textE h.value ++ rest)))))) (by omega) (by omega) (by omega)
  have t4 := numsR_E (most := 6) (x := (h.acts.length : Int)) (rest := h.acts.flatMap actE ++ (numsE [(h.reads.length : Int)] ++ (h.reads.flatMap readE ++ (flagE h.put :: (textE h.value ++ rest))))) (by omega) (by omega) (by omega)
  have t5 := actsL_E (key := h.key) (rest := numsE [(h.reads.length : Int)] ++ (h.reads.flatMap readE ++ (flagE h.put :: (textE h.value ++ rest)))) h.acts [] true fun a ha => ⟨h3 a ha, h1 a ha⟩
  have t6 := numsR_E (most := 6) (x := (h.reads.length : Int)) (rest := h.reads.flatMap readE ++ (flagE h.put :: (textE h.value ++ rest))) (by omega) (by omega) (by omega)
  have t7 := readsL_E (key := h.key) (rest := flagE h.put :: (textE h.value ++ rest)) h.reads [] hrd'
  have t8 := flagR_E h.put (textE h.value ++ rest)
  have t9 := textR_E (most := 20) (s := h.value) (rest := rest) (by omega) (by omega)
  have a1 : actsR h.key (some (numsE [(h.acts.length : Int)] ++ (h.acts.flatMap actE ++ (numsE [(h.reads.length : Int)] ++ (h.reads.flatMap readE ++ (flagE h.put :: (textE h.value ++ rest))))))) = ((h.acts, true), some (numsE [(h.reads.length : Int)] ++ (h.reads.flatMap readE ++ (flagE h.put :: (textE h.value ++ rest))))) := by
    simp only [actsR, t4, Int.toNat_natCast, t5, List.nil_append]
  have a2 : readsR h.key (some (numsE [(h.reads.length : Int)] ++ (h.reads.flatMap readE ++ (flagE h.put :: (textE h.value ++ rest))))) = (h.reads, some (flagE h.put :: (textE h.value ++ rest))) := by
    simp only [readsR, t6, Int.toNat_natCast, t7, List.nil_append]
  have eh : (⟨h.key, ⟨h.name.client, h.name.num⟩, h.acts, h.reads, h.put, h.value⟩ : Hd) = h := rfl
  simp only [hdR, t1, t2, t3, a1, a2, t8, t9, eh, hr0, Bool.and_true]
theorem holdsL_E {rest : List UInt8} : ∀ (post pre : List Hd), Sorted (pre ++ post) → (∀ h ∈ post, rightB h = true) → holdsL post.length pre (some (post.flatMap holdE ++ rest)) = ((pre ++ post, true), some rest)
  | [], pre, _, _ => by simp [holdsL]
  | h :: post, pre, hs, hr => by
    have e : (h :: post).flatMap holdE ++ rest = holdE h ++ (post.flatMap holdE ++ rest) := by simp
    rw [List.length_cons, holdsL, e, hdR_E (hr h (by simp))]
    have hb : badH pre ((h, true), some (post.flatMap holdE ++ rest)) = false := by
      simp only [badH, Bool.not_true, Option.isNone_some, Bool.false_or]
      cases hl : pre.getLast? with
      | none => rfl
      | some y =>
        have hy := List.mem_of_getLast? hl
        have := (List.pairwise_append.1 hs).2.2 y hy h (by simp)
        simp [this]
    rw [hb]
    simp only [Bool.false_eq_true, if_false]
    rw [holdsL_E post (pre ++ [h]) (by simpa using hs) fun x hx => hr x (by simp [hx])]
    simp
theorem holdsR_E {L : List Hd} (hW : WF L) : holdsR (some (numsE [(L.length : Int)] ++ L.flatMap holdE)) = ((L, true), some []) := by
  have hl := hW.le
  have t1 := numsR_E (most := 60) (x := (L.length : Int)) (rest := L.flatMap holdE) (by omega) (by omega) (by omega)
  have t2 := holdsL_E (rest := []) L [] (by simpa using hW.sorted) hW.right
  rw [List.append_nil, List.nil_append] at t2
  unfold holdsR
  rw [t1]
  simp only [Int.toNat_natCast]
  exact t2
theorem right_ok {h : Hd} (hr : rightB h = true) : holdOk h = true ∧ holdW h ≤ 1000 := by
  have hr0 := hr
  obtain ⟨sa, sr⟩ := rightB_small hr
  have hkey := right_key hr
  have hks : h.key.size ≤ 20 := by simp only [isKey, Bool.and_eq_true, decide_eq_true_eq] at hkey; exact hkey.1.2
  simp only [rightB, actsB, Bool.and_eq_true, decide_eq_true_eq, List.all_eq_true] at hr
  obtain ⟨⟨⟨⟨⟨⟨⟨h1, hnm⟩, ⟨h2, -⟩, h3⟩, hrd⟩, -⟩, -⟩, hvs⟩, -⟩ := hr
  simp only [nameB, Bool.and_eq_true, decide_eq_true_eq] at hnm
  have hrd' : ∀ r ∈ h.reads, readW r ≤ 40 := fun r hx => by
    simp only [Bool.not_eq_true', List.any_eq_false] at hrd
    have := hrd r hx
    simp only [readBad, Bool.or_eq_true, not_or, Bool.not_eq_true', decide_eq_true_eq, decide_eq_false_iff_not, Decidable.not_not] at this
    unfold readW; omega
  have hac' : ∀ a ∈ h.acts, actW a ≤ 60 := fun a hx => by
    have := actB_bd (h3 a hx)
    unfold actW; omega
  have sum_le : ∀ {α : Type} (f : α → Nat) (b : Nat) (l : List α), (∀ a ∈ l, f a ≤ b) → (l.map f).sum ≤ b * l.length := by
    intro α f b l
    induction l with
    | nil => intro _; simp
    | cons a l ih =>
      intro hh
      have := ih fun x hx => hh x (by simp [hx])
      have := hh a (by simp)
      simp only [List.map_cons, List.sum_cons, List.length_cons, Nat.mul_add]
      omega
  have s1 := sum_le actW 60 h.acts hac'
  have s2 := sum_le readW 40 h.reads hrd'
  refine ⟨?_, by unfold holdW; omega⟩
  simp only [holdOk, Bool.and_eq_true, List.all_eq_true]
  refine ⟨⟨by simp [numOk]; omega, by simp [numOk]; omega⟩, fun a ha => ?_⟩
  obtain ⟨b1, b2, b3, b4, b5⟩ := actB_bd (h3 a ha)
  have := absI_val b4 b5
  simp only [actOk, Bool.and_eq_true, numOk, decide_eq_true_eq]
  rw [this]
  refine ⟨by omega, by split <;> omega⟩
theorem holdE_len {h : Hd} (hr : rightB h = true) : (holdE h).length ≤ holdW h := by
  have hkey := right_key hr
  have hks : h.key.size ≤ 20 := by simp only [isKey, Bool.and_eq_true, decide_eq_true_eq] at hkey; exact hkey.1.2
  simp only [rightB, actsB, Bool.and_eq_true, decide_eq_true_eq, List.all_eq_true] at hr
  obtain ⟨⟨⟨⟨⟨⟨⟨h1, hnm⟩, ⟨h2, -⟩, h3⟩, hrd⟩, -⟩, -⟩, hvs⟩, -⟩ := hr
  have hsz : ∀ s : ByteArray, s.size ≤ 20 → Sz s := fun s h => by unfold Sz big; omega
  have s1 := flat_all (e := actE) (w := actW) (l := h.acts) fun a ha => actE_len (hsz _ (actB_bd (h3 a ha)).2.2.1)
  have s2 := flat_all (e := readE) (w := readW) (l := h.reads) fun r hx => readE_len (hsz _ (by
    simp only [Bool.not_eq_true', List.any_eq_false] at hrd
    have := hrd r hx
    simp only [readBad, Bool.or_eq_true, not_or, Bool.not_eq_true', decide_eq_true_eq, decide_eq_false_iff_not, Decidable.not_not] at this
    omega))
  have t1 := textE_len h.key (hsz _ hks)
  have t2 := textE_len h.value (hsz _ (by omega))
  have n1 := numsE_len [h.name.client, h.name.num, (h.acts.length : Int)]
  have n2 := numsE_len [(h.reads.length : Int)]
  simp only [List.length_cons, List.length_nil] at n1 n2
  unfold holdE holdW
  simp only [List.length_append, List.length_cons, List.length_nil]
  omega
end Go.WK
/-
  Spans: a cut span; taking and putting back. Appending holds.
-/
namespace Go.WK
open Go Go.Proofs

theorem filter_split {p q r : Hd → Bool} (h2 : ∀ a b : Hd, sless a.key b.key = true → q a = true → p b = false) (h3 : ∀ a, q a = true → p a = false) (h1 : ∀ a, r a = (p a || q a)) : ∀ {L : List Hd}, Sorted L → L.filter p ++ L.filter q = L.filter r
  | [], _ => rfl
  | a :: L, hs => by
    have hs' := List.pairwise_cons.1 hs
    have ih := filter_split h2 h3 h1 hs'.2
    cases hp : p a with
    | true =>
      have hq : q a = false := by
        cases hq : q a with
        | false => rfl
        | true => rw [h3 a hq] at hp; cases hp
      have hr : r a = true := by rw [h1, hp]; rfl
      rw [List.filter_cons_of_pos hp, List.filter_cons_of_neg (by simp [hq]), List.filter_cons_of_pos hr, List.cons_append, ih]
    | false =>
      cases hq : q a with
      | true =>
        have hr : r a = true := by rw [h1, hp, hq]; rfl
        have he : L.filter p = [] := List.filter_eq_nil_iff.2 fun b hb => by simp [h2 a b (hs'.1 b hb) hq]
        rw [he, List.nil_append] at ih
        rw [List.filter_cons_of_neg (by simp [hp]), he, List.nil_append, List.filter_cons_of_pos hq, List.filter_cons_of_pos hr, ih]
      | false =>
        have hr : r a = false := by rw [h1, hp, hq]; rfl
        rw [List.filter_cons_of_neg (by simp [hp]), List.filter_cons_of_neg (by simp [hq]), List.filter_cons_of_neg (by simp [hr]), ih]
theorem span_cut {L : List Hd} {lo hi cut : ByteArray} (hs : Sorted L) (h : spHas lo hi cut = true) (hc : cut ≠ lo) :
    (L.filter fun h => spHas lo cut h.key) ++ (L.filter fun h => spHas cut hi h.key) = L.filter fun h => spHas lo hi h.key := by
  simp only [spHas, Bool.and_eq_true, Bool.not_eq_true'] at h
  obtain ⟨⟨⟨hR, hk⟩, hl⟩, ha⟩ := h
  have hne : ¬ cut = .empty := by
    simp only [isKey, Bool.and_eq_true, Bool.not_eq_true', decide_eq_false_iff_not] at hk; exact hk.1.1
  have hlc : sless lo cut = true := by
    cases h : sless lo cut with
    | true => rfl
    | false => exact absurd (sless_total hl h) hc
  simp only [spRight, Bool.and_eq_true] at hR
  obtain ⟨⟨r1, r2⟩, r3⟩ := hR
  have e1 : spRight lo cut = true := by simp [spRight, r1, hk, spAbove, hlc]
  have e2 : spRight cut hi = true := by simp [spRight, r2, hk, ha]
  have e3 : spRight lo hi = true := by simp [spRight, r1, r2, r3]
  have ea : ∀ k, spAbove cut k = sless k cut := fun k => by simp [spAbove, hne]
  have hab : ∀ k, sless k cut = true → spAbove hi k = true := fun k h => by
    simp only [spAbove, Bool.or_eq_true, decide_eq_true_eq] at ha ⊢
    exact ha.imp id fun ha => sless_trans h ha
  have hlow : ∀ k, sless k cut = false → sless k lo = false := fun k h => by
    cases hh : sless k lo with
    | false => rfl
    | true => rw [sless_trans hh hlc] at h; cases h
  simp only [spHas, e1, e2, e3, ea, Bool.true_and]
  refine filter_split (fun a b hab' hq => ?_) (fun a hq => ?_) (fun a => ?_) hs
  · simp only [Bool.and_eq_true, Bool.not_eq_true'] at hq
    obtain ⟨⟨-, hq⟩, -⟩ := hq
    have : sless b.key cut = false := by
      cases hh : sless b.key cut with
      | false => rfl
      | true => rw [sless_trans hab' hh] at hq; cases hq
    simp [this]
  · simp only [Bool.and_eq_true, Bool.not_eq_true'] at hq
    simp [hq.1.2]
  · cases hh : sless a.key cut with
    | true => simp [hab _ hh]
    | false => simp [hlow _ hh]
theorem sorted_ext : ∀ {L L' : List Hd}, Sorted L → Sorted L' → (∀ x, x ∈ L ↔ x ∈ L') → L = L'
  | [], [], _, _, _ => rfl
  | [], b :: L', _, _, h => absurd ((h b).2 (by simp)) (by simp)
  | a :: L, [], _, _, h => absurd ((h a).1 (by simp)) (by simp)
  | a :: L, b :: L', hs, hs', h => by
    have h1 := List.pairwise_cons.1 hs
    have h2 := List.pairwise_cons.1 hs'
    have e : a = b := by
      rcases List.mem_cons.1 ((h a).1 (by simp)) with e | ha
      · exact e
      · rcases List.mem_cons.1 ((h b).2 (by simp)) with e | hb
        · exact e.symm
        · have := sless_asymm (h1.1 b hb)
          rw [h2.1 a ha] at this; cases this
    subst e
    congr 1
    refine sorted_ext h1.2 h2.2 fun x => ⟨fun hx => ?_, fun hx => ?_⟩
    · rcases List.mem_cons.1 ((h x).1 (by simp [hx])) with e | hx'
      · subst e; have := h1.1 x hx; rw [sless_irrefl] at this; cases this
      · exact hx'
    · rcases List.mem_cons.1 ((h x).2 (by simp [hx])) with e | hx'
      · subst e; have := h2.1 x hx; rw [sless_irrefl] at this; cases this
      · exact hx'
theorem Sorted.nodup {L : List Hd} (h : Sorted L) : (L.map (·.key)).Nodup := by
  refine List.pairwise_map.2 (h.imp fun {a b} hab e => ?_)
  rw [e, sless_irrefl] at hab; cases hab
theorem filter_len (L : List Hd) (q : Hd → Bool) : (L.filter fun h => !q h).length + (L.filter q).length = L.length := by
  have h2 := List.length_eq_countP_add_countP q (l := L)
  rw [List.countP_eq_length_filter, List.countP_eq_length_filter] at h2
  have h3 : (fun h : Hd => decide ¬ q h = true) = fun h : Hd => !q h := by
    funext h
    cases q h <;> rfl
  rw [h3] at h2
  omega
theorem put_back {L : List Hd} (hW : WF L) (q : Hd → Bool) (hq : ∀ a b : Hd, a.key = b.key → q a = q b) : putE (L.filter fun h => !q h) (L.filter q) = 0 := by
  have hlen := filter_len L q
  have hle := hW.le
  unfold putE
  rw [if_neg, if_neg, if_neg (by omega)]
  · intro hh
    obtain ⟨x, hx, hh⟩ := List.any_eq_true.1 hh
    obtain ⟨y, hy, hk⟩ := hasK_iff.1 hh
    have h1 := (List.mem_filter.1 hx).2
    have h2 := (List.mem_filter.1 hy).2
    rw [hq y x hk, h1] at h2
    cases h2
  · simp only [not_or, Decidable.not_not, Bool.not_eq_false, List.all_eq_true]
    exact ⟨(hW.filter q).sorted.nodup, (hW.filter q).right⟩
theorem back_eq {L L5 : List Hd} (hW : WF L) (h5 : WF L5) (q : Hd → Bool) (h : ∀ x, x ∈ L5 ↔ x ∈ (L.filter fun h => !q h) ∨ x ∈ L.filter q) : L5 = L := by
  refine sorted_ext h5.sorted hW.sorted fun x => ?_
  rw [h x, List.mem_filter, List.mem_filter]
  cases q x <;> simp
theorem none_left (L : List Hd) (q : Hd → Bool) : (L.filter fun h => !q h).filter q = [] := by
  rw [List.filter_filter]
  refine List.filter_eq_nil_iff.2 fun a _ => ?_
  cases q a <;> simp
theorem RowHd.lt {M G : Nat → Prop} {H : Hp} {v : Value} {l : List Hd} (h : RowHd M G H v l) : RowHd (fun x => M x ∧ x < H.size) G H v l := by
  obtain ⟨css, h1, h2, h3⟩ := h
  exact ⟨css, h1.lt, h2, h3⟩
theorem app_hd {M G S : Nat → Prop} {H : Hp} {v u : Value} {L l : List Hd} (hv : RowHd M G H v L) (hM : ∀ x, M x → x < H.size) (hG : ∀ x, G x → ¬ M x ∧ x < H.size) (hu : HdSl S H u l) (hS : ∀ x, S x → ¬ M x ∧ x < H.size) (hsz : (L.length + l.length) * 104 ≤ 140737488355328) :
    ∃ (a : Option Addr) (n c m : Nat) (cells : List Value), v = .slice a n c ∧ appSrc H 7 u = some (m, cells) ∧ ∀ {κ : Value → Hp → Prop} {t : Nat} {z : List Value}, z.length = 7 →
      (∀ v' H', RowHd (fun x => M x ∨ x = H.size) (fun x => G x ∨ S x) H' v' (L ++ l) → KeepOn (fun x => ¬ M x) H H' → H'.size ≤ H.size + 1 → κ v' H') → @appK H t 7 104 z a n c m cells ⟨κ⟩ := by
  obtain ⟨css, hrow, hcl, hel⟩ := hv
  obtain ⟨new, b, d, hnl, rfl, hsrc, hne⟩ := hu.rows
  obtain ⟨a, c, rfl⟩ := hrow.form
  refine ⟨a, css.length, c, new.length, new.flatten, rfl, hsrc, fun {κ t z} hz hk => ?_⟩
  refine app_row (v := .slice a css.length c) hrow hM (fun cs hcs => ?_) hz (by decide) (by rw [hcl, hnl]; exact hsz) (fun v' H' hr hk' hs' => hk v' H' ⟨css ++ new, hr, by simp [hcl, hnl], fun i hi hl => ?_⟩ hk' hs') rfl
  · obtain ⟨i, hi, rfl⟩ := List.mem_iff_getElem.1 hcs
    have := hne i hi (by omega)
    exact ⟨this.2, this.1.one⟩
  · by_cases hil : i < css.length
    · rw [List.getElem_append_left hil, List.getElem_append_left (by omega)]
      exact (hel i hil (by omega)).mono (fun _ h => .inl h) fun x hx hx' => hk'.2 x hx' (hG x hx).1
    · simp only [List.length_append] at hi hl
      rw [List.getElem_append_right (by omega), List.getElem_append_right (by omega)]
      have := (hne (i - css.length) (by omega) (by omega)).1
      simp only [hcl] at this ⊢
      exact this.mono (fun _ h => .inr h) fun x hx hx' => hk'.2 x hx' (hS x hx).1
end Go.WK
/-
  HoldsSpans.
-/
namespace Go.WK
open Go Go.Proofs

theorem sub_len {a b c : Nat} (h : a + b = c) : (c : Int) - (b : Int) = (a : Int) := by omega
attribute [local irreducible] spHas
set_option maxHeartbeats 4000000 in
theorem HoldsSpans_cl {S : Nat → Prop} {H : Hp} {v : Value} {l : List Hd} {lo hi cut : ByteArray} (hv : HdSl S H v l) (hlo : Sz lo) (hhi : Sz hi) (hcu : Sz cut) :
    ClL Tryz.prog 5 [v, .agg #[.string lo, .string hi], .string cut] H fun r H' => r = .bool true ∧ Ext H H' := by
  refine clL_of mixed c_watershedlaw16_HoldsSpans (Nat.le_of_ble_eq_true rfl) ?_
  simp only [fwp, ir_watershedlaw16_HoldsSpans, argF, Nat.reduceAdd]
  have hlo' := hlo
  have hhi' := hhi
  have hcu' := hcu
  unfold Sz big at hlo' hhi' hcu'
  obtain ⟨la, lc, rfl, hlc, hll, -⟩ := SlP.open hv
  refine w_reg fun K hK => ?_
  simp (disch := omega) only [↓wD, ↓i_cbs, ↓i_csk, wU, b_and, b_or, b_shl, b_shr, Nat.reduceBEq, reduceCtorEq, Int.reduceEq, Int.reduceLT, Int.reduceLE, Int.reduceNeg, Value.cells, Value.oneCell', Nat.reduceAdd, Nat.reduceEqDiff, fillL, setL, Nat.reduceLeDiff, ]
  refine hK _ _ ?_
  clear hK K
  have hE0 : Ext H (H.push (.cells #[.string lo, .string hi] 31)) := (Ext.refl _).push _
  have hrn : rdn (H.push (.cells #[.string lo, .string hi] 31)) H.size 0 2 = some [.string lo, .string hi] := rdn_new H [_, _] 31 0 2 (Nat.le_refl _)
  generalize H.push (.cells #[.string lo, .string hi] 31) = H0 at hE0 hrn ⊢
  have hnlt := cell_lt (rdn2 hrn).1
  refine w_seq (w_seq ?_)
  refine w_reg fun K hK => ?_
  simp (disch := omega) only [↓wD, ↓i_cbs, ↓i_csk, wU, b_and, b_or, b_shl, b_shr, Nat.reduceBEq, reduceCtorEq, Int.reduceEq, Int.reduceLT, Int.reduceLE, Int.reduceNeg, Value.cells, Value.oneCell', Nat.reduceAdd, Nat.reduceEqDiff, fillL, setL, Nat.reduceLeDiff, ]
  refine w_call (awake_cl) ?_
  rintro _ H1 ⟨rfl, hE1⟩
  simp (disch := omega) only [↓wD, ↓i_cbs, ↓i_csk, wU, b_and, b_or, b_shl, b_shr, Nat.reduceBEq, reduceCtorEq, Int.reduceEq, Int.reduceLT, Int.reduceLE, Int.reduceNeg, Value.cells, Value.oneCell', Nat.reduceAdd, Nat.reduceEqDiff, fillL, setL, Nat.reduceLeDiff, ]
  refine hK _ _ ?_
  clear hK K
  refine w_false (by simp only [ev_tmp, ev_const, upd_apply, Nat.reduceBEq, cond_true, cond_false, Bool.not_true, Bool.not_false, ]) ?_
  refine w_skip ?_
  repeat (first | with_reducible refine q_n ?_ | with_reducible refine q_e ?_ | with_reducible refine q_r ?_ | with_reducible refine bq_n ?_ | with_reducible refine bq_e ?_ | with_reducible refine bq_r ?_ | with_reducible refine bq_o rfl ?_)
  have hE01 := hE0.trans hE1
  have hrn1 := rdn_ext hE1 hrn
  have hnlt1 := Nat.lt_of_lt_of_le hnlt hE1.size
  obtain ⟨n0, n1⟩ := rdn2 hrn1
  simp only [Nat.zero_add] at n0 n1
  refine w_seq (w_seq ?_)
  refine w_reg fun K hK => ?_
  simp (disch := omega) only [↓wD, ↓i_cbs, ↓i_csk, wU, b_and, b_or, b_shl, b_shr, Nat.reduceBEq, reduceCtorEq, Int.reduceEq, Int.reduceLT, Int.reduceLE, Int.reduceNeg, Value.cells, Value.oneCell', Nat.reduceAdd, Nat.reduceEqDiff, fillL, setL, Nat.reduceLeDiff, ]
  refine w_call (HoldsOf_cl 1500 (hv.ext hE01)) ?_
  rintro _ H1' ⟨e, m, rfl⟩
  subst e
  by_cases hm : 1500 < m
  · simp (disch := omega) only [↓wD, ↓i_cbs, ↓i_csk, wU, b_and, b_or, b_shl, b_shr, Nat.reduceBEq, reduceCtorEq, Int.reduceEq, Int.reduceLT, Int.reduceLE, Int.reduceNeg, Value.cells, Value.oneCell', Nat.reduceAdd, Nat.reduceEqDiff, fillL, setL, Nat.reduceLeDiff, hm]
    refine hK _ _ ?_
    clear hK K
    refine w_true (by simp only [ev_tmp, ev_const, upd_apply, Nat.reduceBEq, cond_true, cond_false, Bool.not_true, Bool.not_false, ]) ?_
    refine w_reg fun K hK => ?_
    simp (disch := omega) only [↓wD, ↓i_cbs, ↓i_csk, wU, b_and, b_or, b_shl, b_shr, Nat.reduceBEq, reduceCtorEq, Int.reduceEq, Int.reduceLT, Int.reduceLE, Int.reduceNeg, Value.cells, Value.oneCell', Nat.reduceAdd, Nat.reduceEqDiff, fillL, setL, Nat.reduceLeDiff, ]
    refine hK _ _ ?_
    clear hK K
    refine w_ret ?_
    repeat (first | with_reducible refine q_n ?_ | with_reducible refine q_e ?_ | with_reducible refine q_r ?_ | with_reducible refine bq_n ?_ | with_reducible refine bq_e ?_ | with_reducible refine bq_r ?_ | with_reducible refine bq_o rfl ?_)
    refine ret1 (by (try simp only [ev_tmp, ev_const, upd_apply, Nat.reduceBEq, cond_true, cond_false, ]); rfl) ?_
    exact ⟨rfl, hE01⟩
  by_cases hk2 : (1500 : Int) < ((lo.size + hi.size + cut.size : Nat) : Int)
  · simp (disch := omega) only [↓wD, ↓i_cbs, ↓i_csk, wU, b_and, b_or, b_shl, b_shr, Nat.reduceBEq, reduceCtorEq, Int.reduceEq, Int.reduceLT, Int.reduceLE, Int.reduceNeg, Value.cells, Value.oneCell', Nat.reduceAdd, Nat.reduceEqDiff, fillL, setL, Nat.reduceLeDiff, hm, n0, n1, hk2]
    refine hK _ _ ?_
    clear hK K
    refine w_true (by simp only [ev_tmp, ev_const, upd_apply, Nat.reduceBEq, cond_true, cond_false, Bool.not_true, Bool.not_false, ]) ?_
    refine w_reg fun K hK => ?_
    simp (disch := omega) only [↓wD, ↓i_cbs, ↓i_csk, wU, b_and, b_or, b_shl, b_shr, Nat.reduceBEq, reduceCtorEq, Int.reduceEq, Int.reduceLT, Int.reduceLE, Int.reduceNeg, Value.cells, Value.oneCell', Nat.reduceAdd, Nat.reduceEqDiff, fillL, setL, Nat.reduceLeDiff, ]
    refine hK _ _ ?_
    clear hK K
    refine w_ret ?_
    repeat (first | with_reducible refine q_n ?_ | with_reducible refine q_e ?_ | with_reducible refine q_r ?_ | with_reducible refine bq_n ?_ | with_reducible refine bq_e ?_ | with_reducible refine bq_r ?_ | with_reducible refine bq_o rfl ?_)
    refine ret1 (by (try simp only [ev_tmp, ev_const, upd_apply, Nat.reduceBEq, cond_true, cond_false, ]); rfl) ?_
    exact ⟨rfl, hE01⟩
  simp (disch := omega) only [↓wD, ↓i_cbs, ↓i_csk, wU, b_and, b_or, b_shl, b_shr, Nat.reduceBEq, reduceCtorEq, Int.reduceEq, Int.reduceLT, Int.reduceLE, Int.reduceNeg, Value.cells, Value.oneCell', Nat.reduceAdd, Nat.reduceEqDiff, fillL, setL, Nat.reduceLeDiff, hm, n0, n1, hk2]
  refine hK _ _ ?_
  clear hK K
  refine w_false (by simp only [ev_tmp, ev_const, upd_apply, Nat.reduceBEq, cond_true, cond_false, Bool.not_true, Bool.not_false, ]) ?_
  refine w_skip ?_
  repeat (first | with_reducible refine q_n ?_ | with_reducible refine q_e ?_ | with_reducible refine q_r ?_ | with_reducible refine bq_n ?_ | with_reducible refine bq_e ?_ | with_reducible refine bq_r ?_ | with_reducible refine bq_o rfl ?_)
  refine w_reg fun K hK => ?_
  simp (disch := omega) only [↓wD, ↓i_cbs, ↓i_csk, wU, b_and, b_or, b_shl, b_shr, Nat.reduceBEq, reduceCtorEq, Int.reduceEq, Int.reduceLT, Int.reduceLE, Int.reduceNeg, Value.cells, Value.oneCell', Nat.reduceAdd, Nat.reduceEqDiff, fillL, setL, Nat.reduceLeDiff, ]
  refine w_call (made_cl (hv.ext hE01)) ?_
  rintro _ H2 ⟨rfl, hE2, L, M, G, vt, hT, hW, hlow⟩
  simp (disch := omega) only [↓wD, ↓i_cbs, ↓i_csk, wU, b_and, b_or, b_shl, b_shr, Nat.reduceBEq, reduceCtorEq, Int.reduceEq, Int.reduceLT, Int.reduceLE, Int.reduceNeg, Value.cells, Value.oneCell', Nat.reduceAdd, Nat.reduceEqDiff, fillL, setL, Nat.reduceLeDiff, ]
  refine hK _ _ ?_
  clear hK K
  have hE02 := hE01.trans hE2
  have hrn2 := rdn_ext hE2 hrn1
  have he0 : Sz ByteArray.empty := by unfold Sz big; decide
  have hs12 := hE2.size
  generalize hpe : H1'.size = p at hT hlow hs12 ⊢
  have hp2 : p < H2.size := cell_lt hT.c0
  have hMlt : ∀ x, M x ∨ G x → x < H2.size := hT.lt
  refine w_reg fun K hK => ?_
  simp (disch := omega) only [↓wD, ↓i_cbs, ↓i_csk, wU, b_and, b_or, b_shl, b_shr, Nat.reduceBEq, reduceCtorEq, Int.reduceEq, Int.reduceLT, Int.reduceLE, Int.reduceNeg, Value.cells, Value.oneCell', Nat.reduceAdd, Nat.reduceEqDiff, fillL, setL, Nat.reduceLeDiff, ]
  refine w_call (In_cl .empty .empty hT hW.sm he0 he0) ?_
  rintro _ H3 ⟨hE3, Ma, Ga, hda, hla, hra⟩
  rename_i va
  rw [hW.all] at hra
  simp (disch := omega) only [↓wD, ↓i_cbs, ↓i_csk, wU, b_and, b_or, b_shl, b_shr, Nat.reduceBEq, reduceCtorEq, Int.reduceEq, Int.reduceLT, Int.reduceLE, Int.reduceNeg, Value.cells, Value.oneCell', Nat.reduceAdd, Nat.reduceEqDiff, fillL, setL, Nat.reduceLeDiff, ]
  refine hK _ _ ?_
  clear hK K
  have hLl := hW.le
  have hall3 := hra.slp (by unfold big; omega)
  generalize hRd : (fun x => Ma x ∨ Ga x) = Ra at hall3
  have hRa : ∀ x, Ra x → H2.size ≤ x ∧ x < H3.size := by subst hRd; exact hla
  clear hRd hla hra hda
  have hE23 := hE3
  have hrn3 := rdn_ext hE3 hrn2
  have hT3 := hT.ext hE3
  have hs23 := hE3.size
  refine w_reg fun K hK => ?_
  simp (disch := omega) only [↓wD, ↓i_cbs, ↓i_csk, wU, b_and, b_or, b_shl, b_shr, Nat.reduceBEq, reduceCtorEq, Int.reduceEq, Int.reduceLT, Int.reduceLE, Int.reduceNeg, Value.cells, Value.oneCell', Nat.reduceAdd, Nat.reduceEqDiff, fillL, setL, Nat.reduceLeDiff, hrn3]
  refine w_call (In_cl lo hi hT3 hW.sm hlo hhi) ?_
  rintro _ H4 ⟨hE4, Mb, Gb, hdb, hlb, hrb⟩
  rename_i vb
  simp (disch := omega) only [↓wD, ↓i_cbs, ↓i_csk, wU, b_and, b_or, b_shl, b_shr, Nat.reduceBEq, reduceCtorEq, Int.reduceEq, Int.reduceLT, Int.reduceLE, Int.reduceNeg, Value.cells, Value.oneCell', Nat.reduceAdd, Nat.reduceEqDiff, fillL, setL, Nat.reduceLeDiff, ]
  refine hK _ _ ?_
  clear hK K
  have hFl : (L.filter fun h => spHas lo hi h.key).length ≤ 60 := Nat.le_trans (List.length_filter_le _ _) hLl
  have hin4 := hrb.slp (by unfold big; omega)
  generalize hRd : (fun x => Mb x ∨ Gb x) = Rb at hin4
  have hRb : ∀ x, Rb x → H3.size ≤ x ∧ x < H4.size := by subst hRd; exact hlb
  clear hRd hlb hrb hdb
  have hE24 := hE3.trans hE4
  have hs34 := hE4.size
  have hT4 := hT.ext hE24
  have hrn4 := rdn_ext hE4 hrn3
  have hall4 := hall3.ext hE4
  obtain ⟨aa, ac, rfl, hac, -, -⟩ := SlP.open hall4
  obtain ⟨ba, bc, rfl, hbc, -, -⟩ := SlP.open hin4
  -- the cut
  refine w_cut (fun g H'' => Ext H4 H'' ∧ g 2 = .string cut ∧ g 4 = .pointer (some ⟨H.size, 0, none⟩) ∧ g 7 = .pointer (some ⟨p, 0, none⟩) ∧ g 8 = .slice aa L.length ac ∧ g 9 = .slice ba (L.filter fun h => spHas lo hi h.key).length bc) ?_ ?_
  · obtain ⟨m0, m1⟩ := rdn2 hrn4
    simp only [Nat.zero_add] at m0 m1
    refine w_seq ?_
    refine w_reg fun K hK => ?_
    simp (disch := omega) only [↓wD, ↓i_cbs, ↓i_csk, wU, b_and, b_or, b_shl, b_shr, Nat.reduceBEq, reduceCtorEq, Int.reduceEq, Int.reduceLT, Int.reduceLE, Int.reduceNeg, Value.cells, Value.oneCell', Nat.reduceAdd, Nat.reduceEqDiff, fillL, setL, Nat.reduceLeDiff, hrn4]
    refine w_call (spRight_cl lo hi hlo hhi) ?_
    rintro _ H5 ⟨rfl, hE5⟩
    have hrn5 := rdn_ext hE5 hrn4
    have m05 := (hE5.cell H.size 0 (by omega)).trans m0
    cases hR : spRight lo hi with
    | false =>
      simp (disch := omega) only [↓wD, ↓i_cbs, ↓i_csk, wU, b_and, b_or, b_shl, b_shr, Nat.reduceBEq, reduceCtorEq, Int.reduceEq, Int.reduceLT, Int.reduceLE, Int.reduceNeg, Value.cells, Value.oneCell', Nat.reduceAdd, Nat.reduceEqDiff, fillL, setL, Nat.reduceLeDiff, hR]
      refine hK _ _ ?_
      clear hK K
      refine w_false (by simp only [ev_tmp, ev_const, upd_apply, Nat.reduceBEq, cond_true, cond_false, Bool.not_true, Bool.not_false, ]) ?_
      refine w_skip ?_
      repeat (first | with_reducible refine q_n ?_ | with_reducible refine q_e ?_ | with_reducible refine q_r ?_ | with_reducible refine bq_n ?_ | with_reducible refine bq_e ?_ | with_reducible refine bq_r ?_ | with_reducible refine bq_o rfl ?_)
      exact ⟨hE5, (by simp only [ev_tmp, ev_const, upd_apply, Nat.reduceBEq, cond_true, cond_false, ]), (by simp only [ev_tmp, ev_const, upd_apply, Nat.reduceBEq, cond_true, cond_false, ]), (by simp only [ev_tmp, ev_const, upd_apply, Nat.reduceBEq, cond_true, cond_false, ]), (by simp only [ev_tmp, ev_const, upd_apply, Nat.reduceBEq, cond_true, cond_false, ]), (by simp only [ev_tmp, ev_const, upd_apply, Nat.reduceBEq, cond_true, cond_false, ])⟩
    | true =>
      simp (disch := omega) only [↓wD, ↓i_cbs, ↓i_csk, wU, b_and, b_or, b_shl, b_shr, Nat.reduceBEq, reduceCtorEq, Int.reduceEq, Int.reduceLT, Int.reduceLE, Int.reduceNeg, Value.cells, Value.oneCell', Nat.reduceAdd, Nat.reduceEqDiff, fillL, setL, Nat.reduceLeDiff, hR, hrn5]
      refine w_call (spHas_cl lo hi cut hlo hhi hcu) ?_
      rintro _ H6 ⟨rfl, hE6⟩
      have m06 := (hE6.cell H.size 0 (by have := hE5.size; omega)).trans m05
      cases hH : spHas lo hi cut with
      | false =>
        simp (disch := omega) only [↓wD, ↓i_cbs, ↓i_csk, wU, b_and, b_or, b_shl, b_shr, Nat.reduceBEq, reduceCtorEq, Int.reduceEq, Int.reduceLT, Int.reduceLE, Int.reduceNeg, Value.cells, Value.oneCell', Nat.reduceAdd, Nat.reduceEqDiff, fillL, setL, Nat.reduceLeDiff, hH]
        refine hK _ _ ?_
        clear hK K
        refine w_false (by simp only [ev_tmp, ev_const, upd_apply, Nat.reduceBEq, cond_true, cond_false, Bool.not_true, Bool.not_false, ]) ?_
        refine w_skip ?_
        repeat (first | with_reducible refine q_n ?_ | with_reducible refine q_e ?_ | with_reducible refine q_r ?_ | with_reducible refine bq_n ?_ | with_reducible refine bq_e ?_ | with_reducible refine bq_r ?_ | with_reducible refine bq_o rfl ?_)
        exact ⟨hE5.trans hE6, (by simp only [ev_tmp, ev_const, upd_apply, Nat.reduceBEq, cond_true, cond_false, ]), (by simp only [ev_tmp, ev_const, upd_apply, Nat.reduceBEq, cond_true, cond_false, ]), (by simp only [ev_tmp, ev_const, upd_apply, Nat.reduceBEq, cond_true, cond_false, ]), (by simp only [ev_tmp, ev_const, upd_apply, Nat.reduceBEq, cond_true, cond_false, ]), (by simp only [ev_tmp, ev_const, upd_apply, Nat.reduceBEq, cond_true, cond_false, ])⟩
      | true =>
        by_cases hc : cut = lo
        · have hcT : (cut = lo) = True := eq_true hc
          simp (disch := omega) only [↓wD, ↓i_cbs, ↓i_csk, wU, b_and, b_or, b_shl, b_shr, Nat.reduceBEq, reduceCtorEq, Int.reduceEq, Int.reduceLT, Int.reduceLE, Int.reduceNeg, Value.cells, Value.oneCell', Nat.reduceAdd, Nat.reduceEqDiff, fillL, setL, Nat.reduceLeDiff, hH, m06, hcT]
          refine hK _ _ ?_
          clear hK K
          refine w_false (by simp only [ev_tmp, ev_const, upd_apply, Nat.reduceBEq, cond_true, cond_false, Bool.not_true, Bool.not_false, ]) ?_
          refine w_skip ?_
          repeat (first | with_reducible refine q_n ?_ | with_reducible refine q_e ?_ | with_reducible refine q_r ?_ | with_reducible refine bq_n ?_ | with_reducible refine bq_e ?_ | with_reducible refine bq_r ?_ | with_reducible refine bq_o rfl ?_)
          exact ⟨hE5.trans hE6, (by simp only [ev_tmp, ev_const, upd_apply, Nat.reduceBEq, cond_true, cond_false, ]), (by simp only [ev_tmp, ev_const, upd_apply, Nat.reduceBEq, cond_true, cond_false, ]), (by simp only [ev_tmp, ev_const, upd_apply, Nat.reduceBEq, cond_true, cond_false, ]), (by simp only [ev_tmp, ev_const, upd_apply, Nat.reduceBEq, cond_true, cond_false, ]), (by simp only [ev_tmp, ev_const, upd_apply, Nat.reduceBEq, cond_true, cond_false, ])⟩
        have hcF : (cut = lo) = False := eq_false hc
        simp (disch := omega) only [↓wD, ↓i_cbs, ↓i_csk, wU, b_and, b_or, b_shl, b_shr, Nat.reduceBEq, reduceCtorEq, Int.reduceEq, Int.reduceLT, Int.reduceLE, Int.reduceNeg, Value.cells, Value.oneCell', Nat.reduceAdd, Nat.reduceEqDiff, fillL, setL, Nat.reduceLeDiff, hH, m06, hcF]
        refine hK _ _ ?_
        clear hK K
        refine w_true (by simp only [ev_tmp, ev_const, upd_apply, Nat.reduceBEq, cond_true, cond_false, Bool.not_true, Bool.not_false, ]) ?_
        have hE46 := hE5.trans hE6
        have hrn6 := rdn_ext hE6 hrn5
        obtain ⟨k0, k1⟩ := rdn2 hrn6
        simp only [Nat.zero_add] at k0 k1
        have hT6 := hT4.ext hE46
        have hin6 := hin4.ext hE46
        refine w_seq ?_
        refine w_lin (fun x => x = H.size) fun K hK => ?_
        simp (disch := omega) only [↓l_nil, ↓l_f, ↓l_t, ↓o_s, ↓o_e, ↓o_g, ↓o_ge, ↓k_ld, ↓k_ldn, isemS, ↓wD, ↓i_cbs, ↓i_csk, wU, b_and, b_or, b_shl, b_shr, Nat.reduceBEq, reduceCtorEq, Int.reduceEq, Int.reduceLT, Int.reduceLE, Int.reduceNeg, Value.cells, Value.oneCell', Nat.reduceAdd, Nat.reduceEqDiff, fillL, setL, Nat.reduceLeDiff, k0, k1]
        refine w_call (In_cl lo cut hT6 hW.sm hlo hcu) ?_
        rintro _ H7 ⟨hE7, Mc, Gc, hdc, hlc7, hrc⟩
        rename_i vc
        simp (disch := omega) only [↓l_nil, ↓l_f, ↓l_t, ↓o_s, ↓o_e, ↓o_g, ↓o_ge, ↓k_ld, ↓k_ldn, isemS, ↓wD, ↓i_cbs, ↓i_csk, wU, b_and, b_or, b_shl, b_shr, Nat.reduceBEq, reduceCtorEq, Int.reduceEq, Int.reduceLT, Int.reduceLE, Int.reduceNeg, Value.cells, Value.oneCell', Nat.reduceAdd, Nat.reduceEqDiff, fillL, setL, Nat.reduceLeDiff, k0, k1]
        refine ⟨hE7.on _, ?_⟩
        have hT7 := hT6.ext hE7
        refine w_call (In_cl cut hi hT7 hW.sm hcu hhi) ?_
        rintro _ H8 ⟨hE8, Md, Gd, hdd, hld, hrd⟩
        rename_i vd
        simp (disch := omega) only [↓l_nil, ↓l_f, ↓l_t, ↓o_s, ↓o_e, ↓o_g, ↓o_ge, ↓k_ld, ↓k_ldn, isemS, ↓wD, ↓i_cbs, ↓i_csk, wU, b_and, b_or, b_shl, b_shr, Nat.reduceBEq, reduceCtorEq, Int.reduceEq, Int.reduceLT, Int.reduceLE, Int.reduceNeg, Value.cells, Value.oneCell', Nat.reduceAdd, Nat.reduceEqDiff, fillL, setL, Nat.reduceLeDiff, k0, k1]
        refine ⟨hE8.on _, ?_⟩
        refine hK _ _ ?_
        clear hK K
        have hcl := Nat.le_trans (List.length_filter_le (fun h => spHas lo cut h.key) L) hLl
        have hdl := Nat.le_trans (List.length_filter_le (fun h => spHas cut hi h.key) L) hLl
        have hs67 := hE7.size
        have hs78 := hE8.size
        have hl8 := (hrc.slp (by unfold big; omega)).ext hE8
        have hr8 := hrd.slp (by unfold big; omega)
        have hin8 := (hin6.ext hE7).ext hE8
        have hE9 : Ext H8 (H8.push (.cells #[] 35)) := (Ext.refl _).push _
        have hs9 : (H8.push (.cells #[] 35)).size = H8.size + 1 := by simp
        obtain ⟨ea, en, ec, em, ecells, eev, esrc, eapp⟩ := app_hd (M := fun x => x = H8.size) (G := fun _ => False) (H := H8.push (.cells #[] 35)) (L := []) (v := .slice (some ⟨H8.size, 0, none⟩) 0 0) ⟨[], Row.empty, rfl, fun i hi => by simp at hi⟩ (fun x hx => by omega) (fun x hx => hx.elim) (hl8.ext hE9) (fun x hx => by have := hlc7 x hx; omega) (by simp only [List.length_nil]; omega)
        injection eev with e1 e2 e3
        subst e1 e2 e3
        refine w_seq ?_
        refine w_reg fun K hK => ?_
        simp (disch := omega) only [↓wD, ↓i_cbs, ↓i_csk, wU, b_and, b_or, b_shl, b_shr, Nat.reduceBEq, reduceCtorEq, Int.reduceEq, Int.reduceLT, Int.reduceLE, Int.reduceNeg, Value.cells, Value.oneCell', Nat.reduceAdd, Nat.reduceEqDiff, fillL, setL, Nat.reduceLeDiff, esrc]
        refine eapp rfl fun v10 H10 hrow10 hk10 hs10 => ?_
        have hs10' := hk10.1
        have hr10 : HdSl (fun x => Md x ∨ Gd x) H10 vd (L.filter fun h => spHas cut hi h.key) := (hr8.ext hE9).mono (fun _ h => h) fun x hx hx' => hk10.2 x hx' (by have := hld x hx; omega)
        have hd6 : ∀ x, (False ∨ (Mc x ∨ Gc x)) → H6.size ≤ x ∧ x < H7.size := fun x hx => hx.elim False.elim (hlc7 x)
        obtain ⟨fa, fn, fc, fm, fcells, ffv, fsrc, fapp⟩ := app_hd hrow10.lt (fun x hx => hx.2) (fun x hx => by have := hd6 x hx; omega) hr10 (fun x hx => by have := hld x hx; omega) (by simp only [List.nil_append]; omega)
        subst ffv
        simp (disch := omega) only [↓wD, ↓i_cbs, ↓i_csk, wU, b_and, b_or, b_shl, b_shr, Nat.reduceBEq, reduceCtorEq, Int.reduceEq, Int.reduceLT, Int.reduceLE, Int.reduceNeg, Value.cells, Value.oneCell', Nat.reduceAdd, Nat.reduceEqDiff, fillL, setL, Nat.reduceLeDiff, fsrc]
        refine fapp rfl fun v12 H12 hrow12 hk12 hs12' => ?_
        have hs12k := hk12.1
        have hsl12 := hrow12.lt.slp (by simp only [List.nil_append, List.length_append]; unfold big; omega)
        rw [List.nil_append, span_cut hW.sorted hH hc] at hsl12
        have hin12 : HdSl Rb H12 (.slice ba (L.filter fun h => spHas lo hi h.key).length bc) (L.filter fun h => spHas lo hi h.key) := (hin8.ext hE9).mono (fun _ h => h) fun x hx hx' => by
          have := hRb x hx
          have := hE46.size
          rw [hk12.2 x (by omega) (by omega), hk10.2 x (by omega) (by omega)]
        simp (disch := omega) only [↓wD, ↓i_cbs, ↓i_csk, wU, b_and, b_or, b_shl, b_shr, Nat.reduceBEq, reduceCtorEq, Int.reduceEq, Int.reduceLT, Int.reduceLE, Int.reduceNeg, Value.cells, Value.oneCell', Nat.reduceAdd, Nat.reduceEqDiff, fillL, setL, Nat.reduceLeDiff, ]
        refine w_call (SameHolds_cl hsl12 hin12) ?_
        rintro _ H13 ⟨rfl, hE13⟩
        simp (disch := omega) only [↓wD, ↓i_cbs, ↓i_csk, wU, b_and, b_or, b_shl, b_shr, Nat.reduceBEq, reduceCtorEq, Int.reduceEq, Int.reduceLT, Int.reduceLE, Int.reduceNeg, Value.cells, Value.oneCell', Nat.reduceAdd, Nat.reduceEqDiff, fillL, setL, Nat.reduceLeDiff, decide_true]
        refine hK _ _ ?_
        clear hK K
        refine w_false (by simp only [ev_tmp, ev_const, upd_apply, Nat.reduceBEq, cond_true, cond_false, Bool.not_true, Bool.not_false, ]) ?_
        refine w_skip ?_
        repeat (first | with_reducible refine q_n ?_ | with_reducible refine q_e ?_ | with_reducible refine q_r ?_ | with_reducible refine bq_n ?_ | with_reducible refine bq_e ?_ | with_reducible refine bq_r ?_ | with_reducible refine bq_o rfl ?_)
        have hlowk : ∀ (A : Hp), A.size ≤ H8.size → ∀ b, b < A.size → ¬ b = H8.size := fun A hA b hb => by omega
        have hE89 := ((hE46.trans hE7).trans hE8).trans hE9
        have hE10 : Ext H4 H10 := hk10.low hE89 fun b hb => by have := hE46.size; omega
        have hE12 : Ext H4 H12 := hk12.low hE10 fun b hb => by have := hE46.size; omega
        exact ⟨hE12.trans hE13, (by simp only [ev_tmp, ev_const, upd_apply, Nat.reduceBEq, cond_true, cond_false, ]), (by simp only [ev_tmp, ev_const, upd_apply, Nat.reduceBEq, cond_true, cond_false, ]), (by simp only [ev_tmp, ev_const, upd_apply, Nat.reduceBEq, cond_true, cond_false, ]), (by simp only [ev_tmp, ev_const, upd_apply, Nat.reduceBEq, cond_true, cond_false, ]), (by simp only [ev_tmp, ev_const, upd_apply, Nat.reduceBEq, cond_true, cond_false, ])⟩
  clear hall3 hT3 hrn1 hrn2 hrn3 n0 n1
  rintro f H5 ⟨hE5, f2, f4, f7, f8, f9⟩
  have hrn5 := rdn_ext hE5 hrn4
  have hT5 := hT4.ext hE5
  have hs45 := hE5.size
  have hHp : H.size < p := by omega
  have hMx : ∀ x, H2.size ≤ x ∨ x < p → ¬ M x ∧ x ≠ p := fun x hx => ⟨fun hm => by have := hMlt x (.inl hm); have := hlow x (.inl hm); omega, by omega⟩
  refine w_reg fun K hK => ?_
  simp (disch := omega) only [↓wD, ↓i_cbs, ↓i_csk, wU, b_and, b_or, b_shl, b_shr, Nat.reduceBEq, reduceCtorEq, Int.reduceEq, Int.reduceLT, Int.reduceLE, Int.reduceNeg, Value.cells, Value.oneCell', Nat.reduceAdd, Nat.reduceEqDiff, fillL, setL, Nat.reduceLeDiff, f4, f7, hrn5]
  refine w_call (Take_cl lo hi hT5 hW.sm hlo hhi) ?_
  rintro _ H6 ⟨⟨Mg, Gg, -, hg, hrg⟩, hk6, v6, hT6⟩
  rename_i vg
  simp (disch := omega) only [↓wD, ↓i_cbs, ↓i_csk, wU, b_and, b_or, b_shl, b_shr, Nat.reduceBEq, reduceCtorEq, Int.reduceEq, Int.reduceLT, Int.reduceLE, Int.reduceNeg, Value.cells, Value.oneCell', Nat.reduceAdd, Nat.reduceEqDiff, fillL, setL, Nat.reduceLeDiff, ]
  refine hK _ _ ?_
  clear hK K
  have hs56 := hk6.1
  have hgot6 := hrg.slp (by unfold big; omega)
  have hRg : ∀ x, (Mg x ∨ Gg x) → H5.size ≤ x ∧ x < H6.size := hg
  have hall6 : HdSl Ra H6 (.slice aa L.length ac) L := (hall4.ext hE5).mono (fun _ h => h) fun x hx hx' => hk6.2 x hx' (hMx x (.inl (hRa x hx).1))
  have hin6 : HdSl Rb H6 (.slice ba (L.filter fun h => spHas lo hi h.key).length bc) (L.filter fun h => spHas lo hi h.key) := (hin4.ext hE5).mono (fun _ h => h) fun x hx hx' => hk6.2 x hx' (hMx x (.inl (by have := hRb x hx; omega)))
  have hrn6 := rdn_block (hk6.2 H.size (by omega) (hMx _ (.inr hHp))) hrn5
  obtain ⟨ga, gc, rfl, hgc, -, -⟩ := SlP.open hgot6
  have hW1 := hW.filter fun h => !spHas lo hi h.key
  have hlen := filter_len L fun h => spHas lo hi h.key
  have hF1l : (L.filter fun h => !spHas lo hi h.key).length ≤ 60 := Nat.le_trans (List.length_filter_le _ _) hLl
  try simp only at hlen
  refine w_seq (w_seq ?_)
  refine w_reg fun K hK => ?_
  simp (disch := omega) only [↓wD, ↓i_cbs, ↓i_csk, wU, b_and, b_or, b_shl, b_shr, Nat.reduceBEq, reduceCtorEq, Int.reduceEq, Int.reduceLT, Int.reduceLE, Int.reduceNeg, Value.cells, Value.oneCell', Nat.reduceAdd, Nat.reduceEqDiff, fillL, setL, Nat.reduceLeDiff, f9]
  refine w_call (SameHolds_cl hgot6 hin6) ?_
  rintro _ H7 ⟨rfl, hE7⟩
  have hrn7 := rdn_ext hE7 hrn6
  simp (disch := omega) only [↓wD, ↓i_cbs, ↓i_csk, wU, b_and, b_or, b_shl, b_shr, Nat.reduceBEq, reduceCtorEq, Int.reduceEq, Int.reduceLT, Int.reduceLE, Int.reduceNeg, Value.cells, Value.oneCell', Nat.reduceAdd, Nat.reduceEqDiff, fillL, setL, Nat.reduceLeDiff, decide_true, f4, f7, hrn7]
  have hT7 := hT6.ext hE7
  refine w_call (In_cl lo hi hT7 hW1.sm hlo hhi) ?_
  rintro _ H8 ⟨hE8, Mh, Gh, hdh, hlh, hrh⟩
  rename_i vh
  rw [none_left L fun h => spHas lo hi h.key] at hrh
  obtain ⟨ha, hc, rfl, -⟩ := SlP.open (hrh.slp (by unfold big; simp))
  have hT8 := hT7.ext hE8
  have hgot8 := (hgot6.ext hE7).ext hE8
  simp (disch := omega) only [↓wD, ↓i_cbs, ↓i_csk, wU, b_and, b_or, b_shl, b_shr, Nat.reduceBEq, reduceCtorEq, Int.reduceEq, Int.reduceLT, Int.reduceLE, Int.reduceNeg, Value.cells, Value.oneCell', Nat.reduceAdd, Nat.reduceEqDiff, fillL, setL, Nat.reduceLeDiff, List.length_nil, f7, cast0]
  refine w_call (Many_cl hT8) ?_
  rintro _ H8 ⟨rfl, rfl⟩
  have z1 : ((L.length : Int) - ((L.filter fun h => spHas lo hi h.key).length : Int)) = ((L.filter fun h => !spHas lo hi h.key).length : Int) := sub_len hlen
  simp (disch := omega) only [↓wD, ↓i_cbs, ↓i_csk, wU, b_and, b_or, b_shl, b_shr, Nat.reduceBEq, reduceCtorEq, Int.reduceEq, Int.reduceLT, Int.reduceLE, Int.reduceNeg, Value.cells, Value.oneCell', Nat.reduceAdd, Nat.reduceEqDiff, fillL, setL, Nat.reduceLeDiff, f7, f8, z1]
  have hs67 := hE7.size
  have hs78 := hE8.size
  have put := Put_cl hT8 hW1 hgot8 (fun x hx => hMx x (.inl (by have := hRg x hx; omega)))
  have pb := put_back hW (fun h => spHas lo hi h.key) fun a b e => by simp only [e]
  try simp only at pb
  rw [pb] at put
  refine w_call (put) ?_
  rintro _ H9 ⟨rfl, hk9, L5, M5, G5, v5, hW5, hT9, hG5, hin, -⟩
  obtain rfl := back_eq hW hW5 (fun h => spHas lo hi h.key) (hin rfl).1
  have hs89 := hk9.1
  simp (disch := omega) only [↓wD, ↓i_cbs, ↓i_csk, wU, b_and, b_or, b_shl, b_shr, Nat.reduceBEq, reduceCtorEq, Int.reduceEq, Int.reduceLT, Int.reduceLE, Int.reduceNeg, Value.cells, Value.oneCell', Nat.reduceAdd, Nat.reduceEqDiff, fillL, setL, Nat.reduceLeDiff, f7]
  refine w_call (In_cl .empty .empty hT9 hW5.sm he0 he0) ?_
  rintro _ H10 ⟨hE10, Mi, Gi, hdi, hli, hri⟩
  rename_i vi
  rw [hW5.all] at hri
  have hs910 := hE10.size
  have hall10 : HdSl Ra H10 (.slice aa L5.length ac) L5 := HdSl.mono (H := H8) ((hall6.ext hE7).ext hE8) (fun _ h => h) (fun x hx hx' => by
    rw [hE10.2 x (by omega), hk9.2 x hx' (hMx x (.inl (hRa x hx).1))])
  simp (disch := omega) only [↓wD, ↓i_cbs, ↓i_csk, wU, b_and, b_or, b_shl, b_shr, Nat.reduceBEq, reduceCtorEq, Int.reduceEq, Int.reduceLT, Int.reduceLE, Int.reduceNeg, Value.cells, Value.oneCell', Nat.reduceAdd, Nat.reduceEqDiff, fillL, setL, Nat.reduceLeDiff, f8]
  refine w_call (SameHolds_cl (hri.slp (by unfold big; omega)) hall10) ?_
  rintro _ H11 ⟨rfl, hE11⟩
  simp (disch := omega) only [↓wD, ↓i_cbs, ↓i_csk, wU, b_and, b_or, b_shl, b_shr, Nat.reduceBEq, reduceCtorEq, Int.reduceEq, Int.reduceLT, Int.reduceLE, Int.reduceNeg, Value.cells, Value.oneCell', Nat.reduceAdd, Nat.reduceEqDiff, fillL, setL, Nat.reduceLeDiff, decide_true]
  refine hK _ _ ?_
  clear hK K
  refine w_false (by simp only [ev_tmp, ev_const, upd_apply, Nat.reduceBEq, cond_true, cond_false, Bool.not_true, Bool.not_false, ]) ?_
  refine w_skip ?_
  repeat (first | with_reducible refine q_n ?_ | with_reducible refine q_e ?_ | with_reducible refine q_r ?_ | with_reducible refine bq_n ?_ | with_reducible refine bq_e ?_ | with_reducible refine bq_r ?_ | with_reducible refine bq_o rfl ?_)
  have hlowx : ∀ b, b < H.size → ¬ M b ∧ b ≠ p := fun b hb => hMx b (.inr (by omega))
  have hE05 : Ext H H5 := ((hE02.trans hE23).trans hE4).trans hE5
  have hE06 : Ext H H6 := hk6.low hE05 hlowx
  have hE08 : Ext H H8 := (hE06.trans hE7).trans hE8
  have hE09 : Ext H H9 := hk9.low hE08 hlowx
  have hE011 := (hE09.trans hE10).trans hE11
  have hall11 := hall10.ext hE11
  clear hT hT4 hT5 hT6 hT7 hT8 hT9 hgot6 hgot8 hin6 hall6 hall10 put pb hin z1 hrn hrn4 hrn5 hrn6 hrn7
  -- the bytes
  refine w_reg fun K hK => ?_
  simp (disch := omega) only [↓wD, ↓i_cbs, ↓i_csk, wU, b_and, b_or, b_shl, b_shr, Nat.reduceBEq, reduceCtorEq, Int.reduceEq, Int.reduceLT, Int.reduceLE, Int.reduceNeg, Value.cells, Value.oneCell', Nat.reduceAdd, Nat.reduceEqDiff, fillL, setL, Nat.reduceLeDiff, ]
  refine w_call (NewWriter_cl) ?_
  rintro _ H12 ⟨rfl, hE12, hWr⟩
  have hs1112 := hE12.size
  have hs1011 := hE11.size
  have hRa11 : ∀ x, Ra x → x < H11.size := fun x hx => by have := hRa x hx; omega
  have hsum : (L5.map holdW).sum ≤ 60000 := by
    have : ∀ l : List Hd, (∀ h ∈ l, holdW h ≤ 1000) → (l.map holdW).sum ≤ 1000 * l.length := by
      intro l
      induction l with
      | nil => intro _; simp
      | cons a l ih =>
        intro hh
        have h1 := ih fun x hx => hh x (by simp [hx])
        have h2 := hh a (by simp)
        simp only [List.map_cons, List.sum_cons, List.length_cons]
        omega
    have := this L5 fun h hh => (right_ok (hW5.right h hh)).2
    omega
  have hok : L5.all holdOk = true := List.all_eq_true.2 fun h hh => (right_ok (hW5.right h hh)).1
  simp (disch := omega) only [↓wD, ↓i_cbs, ↓i_csk, wU, b_and, b_or, b_shl, b_shr, Nat.reduceBEq, reduceCtorEq, Int.reduceEq, Int.reduceLT, Int.reduceLE, Int.reduceNeg, Value.cells, Value.oneCell', Nat.reduceAdd, Nat.reduceEqDiff, fillL, setL, Nat.reduceLeDiff, f8]
  refine w_call (Write_cl hWr (hall11.ext hE12) (fun x hx => ⟨fun h => h, by have := hRa11 x hx; omega⟩) (by simp only [List.length_nil]; omega)) ?_
  rintro _ H13 ⟨rfl, hk13, Mw, vw, hWr13, hMw⟩
  rw [hok, List.nil_append] at hWr13
  obtain ⟨bs, hbs⟩ : ∃ bs, bs = numsE [(L5.length : Int)] ++ L5.flatMap holdE := ⟨_, rfl⟩
  rw [← hbs] at hWr13
  have hbl : bs.length ≤ 70000 := by
    have h1 := flat_all (e := holdE) (w := holdW) (l := L5) fun h hh => holdE_len (hW5.right h hh)
    have h2 := numsE_len [(L5.length : Int)]
    simp only [List.length_cons, List.length_nil] at h2
    rw [hbs, List.length_append]
    omega
  simp (disch := omega) only [↓wD, ↓i_cbs, ↓i_csk, wU, b_and, b_or, b_shl, b_shr, Nat.reduceBEq, reduceCtorEq, Int.reduceEq, Int.reduceLT, Int.reduceLE, Int.reduceNeg, Value.cells, Value.oneCell', Nat.reduceAdd, Nat.reduceEqDiff, fillL, setL, Nat.reduceLeDiff, ]
  refine w_call (Done_cl hWr13 (by unfold big; omega)) ?_
  rintro _ H14 ⟨hE14, hD⟩
  rcases hD with ⟨hsp, -⟩ | ⟨-, u, Mu, rfl, hMu, hru⟩
  · cases hsp
  have hsu : BSl Mu H14 u bs := hru.slp (by simp) (by unfold big; omega) fun i hi hl => by simp [ElB]
  simp (disch := omega) only [↓wD, ↓i_cbs, ↓i_csk, wU, b_and, b_or, b_shl, b_shr, Nat.reduceBEq, reduceCtorEq, Int.reduceEq, Int.reduceLT, Int.reduceLE, Int.reduceNeg, Value.cells, Value.oneCell', Nat.reduceAdd, Nat.reduceEqDiff, fillL, setL, Nat.reduceLeDiff, ]
  refine hK _ _ ?_
  clear hK K
  have hs1213 := hk13.1
  have hs1314 := hE14.size
  have hall14 : HdSl Ra H14 (.slice aa L5.length ac) L5 := HdSl.mono (H := H12) (hall11.ext hE12) (fun _ h => h) (fun x hx hx' => by
    have := hRa11 x hx
    rw [hE14.2 x (by omega), hk13.2 x hx' ⟨fun h => h, by omega⟩])
  have hE014 : Ext H H14 := (hk13.low (hE011.trans hE12) fun b hb => ⟨fun h => h, by have := hE011.size; omega⟩).trans hE14
  refine w_reg fun K hK => ?_
  simp (disch := omega) only [↓wD, ↓i_cbs, ↓i_csk, wU, b_and, b_or, b_shl, b_shr, Nat.reduceBEq, reduceCtorEq, Int.reduceEq, Int.reduceLT, Int.reduceLE, Int.reduceNeg, Value.cells, Value.oneCell', Nat.reduceAdd, Nat.reduceEqDiff, fillL, setL, Nat.reduceLeDiff, ]
  refine w_call (NewReader_cl hsu) ?_
  rintro _ H15 ⟨hE15, pr, Sr, vr, rfl, hpr, hSr, hRr⟩
  simp (disch := omega) only [↓wD, ↓i_cbs, ↓i_csk, wU, b_and, b_or, b_shl, b_shr, Nat.reduceBEq, reduceCtorEq, Int.reduceEq, Int.reduceLT, Int.reduceLE, Int.reduceNeg, Value.cells, Value.oneCell', Nat.reduceAdd, Nat.reduceEqDiff, fillL, setL, Nat.reduceLeDiff, ]
  refine hK _ _ ?_
  clear hK K
  have hs1415 := hE15.size
  refine w_reg fun K hK => ?_
  simp (disch := omega) only [↓wD, ↓i_cbs, ↓i_csk, wU, b_and, b_or, b_shl, b_shr, Nat.reduceBEq, reduceCtorEq, Int.reduceEq, Int.reduceLT, Int.reduceLE, Int.reduceNeg, Value.cells, Value.oneCell', Nat.reduceAdd, Nat.reduceEqDiff, fillL, setL, Nat.reduceLeDiff, ]
  refine w_call (Read_cl hRr) ?_
  rintro _ H16 ⟨⟨hk16, v16, hR16⟩, ub, Ru, rfl, hRu, hback⟩
  rw [hbs, holdsR_E hW5] at hR16 hback ⊢
  simp (disch := omega) only [↓wD, ↓i_cbs, ↓i_csk, wU, b_and, b_or, b_shl, b_shr, Nat.reduceBEq, reduceCtorEq, Int.reduceEq, Int.reduceLT, Int.reduceLE, Int.reduceNeg, Value.cells, Value.oneCell', Nat.reduceAdd, Nat.reduceEqDiff, fillL, setL, Nat.reduceLeDiff, ]
  refine hK _ _ ?_
  clear hK K
  have hall16 : HdSl Ra H16 (.slice aa L5.length ac) L5 := HdSl.mono (H := H15) (hall14.ext hE15) (fun _ h => h) (fun x hx hx' => by
    have := hRa11 x hx
    rw [hk16.2 x hx' (by omega)])
  have hE016 : Ext H H16 := hk16.low (hE014.trans hE15) fun b hb => by have := hE014.size; omega
  refine w_reg fun K hK => ?_
  simp (disch := omega) only [↓wD, ↓i_cbs, ↓i_csk, wU, b_and, b_or, b_shl, b_shr, Nat.reduceBEq, reduceCtorEq, Int.reduceEq, Int.reduceLT, Int.reduceLE, Int.reduceNeg, Value.cells, Value.oneCell', Nat.reduceAdd, Nat.reduceEqDiff, fillL, setL, Nat.reduceLeDiff, ]
  refine w_call (End_cl hR16) ?_
  rintro _ _ ⟨rfl, rfl⟩
  simp (disch := omega) only [↓wD, ↓i_cbs, ↓i_csk, wU, b_and, b_or, b_shl, b_shr, Nat.reduceBEq, reduceCtorEq, Int.reduceEq, Int.reduceLT, Int.reduceLE, Int.reduceNeg, Value.cells, Value.oneCell', Nat.reduceAdd, Nat.reduceEqDiff, fillL, setL, Nat.reduceLeDiff, endR, f8]
  refine w_call (SameHolds_cl hback hall16) ?_
  rintro _ H17 ⟨rfl, hE17⟩
  simp (disch := omega) only [↓wD, ↓i_cbs, ↓i_csk, wU, b_and, b_or, b_shl, b_shr, Nat.reduceBEq, reduceCtorEq, Int.reduceEq, Int.reduceLT, Int.reduceLE, Int.reduceNeg, Value.cells, Value.oneCell', Nat.reduceAdd, Nat.reduceEqDiff, fillL, setL, Nat.reduceLeDiff, decide_true]
  refine hK _ _ ?_
  clear hK K
  refine w_ret ?_
  repeat (first | with_reducible refine q_n ?_ | with_reducible refine q_e ?_ | with_reducible refine q_r ?_ | with_reducible refine bq_n ?_ | with_reducible refine bq_e ?_ | with_reducible refine bq_r ?_ | with_reducible refine bq_o rfl ?_)
  refine ret1 (by (try simp only [ev_tmp, ev_const, upd_apply, Nat.reduceBEq, cond_true, cond_false, ]); rfl) ?_
  exact ⟨rfl, hE016.trans hE17⟩
end Go.WK
