/-
  HoldsBytes: for every list of holds and every bytes in memory the function returns true, does not panic and leaves what was there; its condition is the one of its row. Part 11 of 14.
-/
import Derived.Test.YtcafflmhjgnehaaGreatDoorHoldsBytesQ9
import Derived.Test.YtcafflmhjgnehaaGreatDoorProg
import Derived.KernelRfl
import Derived.Test.YtcafflmhjgnehaaGreatDoorHoldsBytesQ7
set_option linter.unusedSimpArgs false
set_option linter.unusedVariables false
set_option linter.defProp false
set_option maxRecDepth 100000
/-
 Holds, read.
-/
namespace Go.WK
open Go Go.Proofs Go.RowKit Go.WideShapes

section
variable {H : Type} {enc : TypeId × Value → H} {w : World} {held : Bool} {cs : List Value} {d : DataW H}

theorem und_str : Tryz.prog.underlying 9 = some .string := by kernel_rfl
theorem und_int : Tryz.prog.underlying 3 = some (.int .i64) := by kernel_rfl
theorem und_bool : Tryz.prog.underlying 4 = some .bool := by kernel_rfl
theorem und_kind : Tryz.prog.underlying 96 = some (.int .u8) := by kernel_rfl
theorem rd_Ac (h : Rdg enc Tryz.prog w held 98 cs d) : ∃ a, ElAc cs a := by
 obtain ⟨hl, hf⟩ := rdg_fields (l := [(96, 0, 1), (9, 1, 1), (9, 2, 1), (3, 3, 1)]) (n := 4) (by kernel_rfl) (by kernel_rfl) h
 obtain ⟨_, y0⟩ := hf 0 _ _ _ rfl
 obtain ⟨_, y1⟩ := hf 1 _ _ _ rfl
 obtain ⟨_, y2⟩ := hf 2 _ _ _ rfl
 obtain ⟨_, y3⟩ := hf 3 _ _ _ rfl
 match cs, hl with
 | [c0, c1, c2, c3], _ =>
  obtain ⟨n, e0, w0⟩ := rdg_int und_kind y0
  obtain ⟨s, e1, w1⟩ := rdg_str und_str y1
  obtain ⟨u, e2, w2⟩ := rdg_str und_str y2
  obtain ⟨m, e3, w3⟩ := rdg_int und_int y3
  simp at e0 e1 e2 e3
  subst e0 e1 e2 e3
  exact ⟨⟨n, s, u, m⟩, rfl, U8_wf w0, I64_wf w3, w1, w2⟩
theorem rd_Rd (h : Rdg enc Tryz.prog w held 100 cs d) : ∃ a, ElRd cs a := by
 obtain ⟨hl, hf⟩ := rdg_fields (l := [(9, 0, 1), (4, 1, 1), (9, 2, 1)]) (n := 3) (by kernel_rfl) (by kernel_rfl) h
 obtain ⟨_, y0⟩ := hf 0 _ _ _ rfl
 obtain ⟨_, y1⟩ := hf 1 _ _ _ rfl
 obtain ⟨_, y2⟩ := hf 2 _ _ _ rfl
 match cs, hl with
 | [c0, c1, c2], _ =>
  obtain ⟨s, e0, w0⟩ := rdg_str und_str y0
  obtain ⟨b, e1⟩ := rdg_bool und_bool y1
  obtain ⟨u, e2, w2⟩ := rdg_str und_str y2
  simp at e0 e1 e2
  subst e0 e1 e2
  exact ⟨⟨s, b, u⟩, rfl, w0, w2⟩
theorem rd_Nm (h : Rdg enc Tryz.prog w held 24 cs d) : ∃ a, ElNm cs a := by
 obtain ⟨hl, hf⟩ := rdg_fields (l := [(3, 0, 1), (3, 1, 1)]) (n := 2) (by kernel_rfl) (by kernel_rfl) h
 obtain ⟨_, y0⟩ := hf 0 _ _ _ rfl
 obtain ⟨_, y1⟩ := hf 1 _ _ _ rfl
 match cs, hl with
 | [c0, c1], _ =>
  obtain ⟨n, e0, w0⟩ := rdg_int und_int y0
  obtain ⟨m, e1, w1⟩ := rdg_int und_int y1
  simp at e0 e1
  subst e0 e1
  exact ⟨⟨n, m⟩, rfl, I64_wf w0, I64_wf w1⟩
theorem rd_Acs (h : Rdg enc Tryz.prog w held 32 cs d) : ∃ v l, cs = [v] ∧ AcSl (fun b => b < w.heap.size) w.heap v l :=
 rdg_slice (e := 98) (k := 4) (bytes := 48) (by kernel_rfl) (by kernel_rfl) (by decide) (by kernel_rfl) (by decide) (fun _ _ h => rd_Ac h) h
theorem rd_Rds (h : Rdg enc Tryz.prog w held 33 cs d) : ∃ v l, cs = [v] ∧ RdSl (fun b => b < w.heap.size) w.heap v l :=
 rdg_slice (e := 100) (k := 3) (bytes := 40) (by kernel_rfl) (by kernel_rfl) (by decide) (by kernel_rfl) (by decide) (fun _ _ h => rd_Rd h) h
theorem rd_Strs (h : Rdg enc Tryz.prog w held 74 cs d) : ∃ v l, cs = [v] ∧ StrSl (fun b => b < w.heap.size) w.heap v l :=
 rdg_slice (e := 9) (k := 1) (bytes := 16) (by kernel_rfl) (by kernel_rfl) (by decide) (by kernel_rfl) (by decide) (fun _ _ h => by
  obtain ⟨s, e, hs⟩ := rdg_str und_str h
  exact ⟨s, e, hs⟩) h
theorem rd_Hd (h : Rdg enc Tryz.prog w held 35 cs d) : ∃ a, ElHd (fun b => b < w.heap.size) w.heap cs a := by
 obtain ⟨hl, hf⟩ := rdg_fields (l := [(9, 0, 1), (24, 1, 2), (32, 3, 1), (33, 4, 1), (4, 5, 1), (9, 6, 1)]) (n := 7) (by kernel_rfl) (by kernel_rfl) h
 obtain ⟨_, y0⟩ := hf 0 _ _ _ rfl
 obtain ⟨_, y1⟩ := hf 1 _ _ _ rfl
 obtain ⟨_, y2⟩ := hf 2 _ _ _ rfl
 obtain ⟨_, y3⟩ := hf 3 _ _ _ rfl
 obtain ⟨_, y4⟩ := hf 4 _ _ _ rfl
 obtain ⟨_, y5⟩ := hf 5 _ _ _ rfl
 match cs, hl with
 | [c0, c1, c2, c3, c4, c5, c6], _ =>
  obtain ⟨s, e0, w0⟩ := rdg_str und_str y0
  obtain ⟨n, e1, w1⟩ := rd_Nm y1
  obtain ⟨va, la, e2, w2⟩ := rd_Acs y2
  obtain ⟨vr, lr, e3, w3⟩ := rd_Rds y3
  obtain ⟨b, e4⟩ := rdg_bool und_bool y4
  obtain ⟨u, e5, w5⟩ := rdg_str und_str y5
  simp at e0 e1 e2 e3 e4 e5
  obtain ⟨rfl, rfl⟩ := e1
  subst e0 e2 e3 e4 e5
  exact ⟨⟨s, n, la, lr, b, u⟩, _, _, rfl, w2, w3, w1, w0, w5⟩
theorem rd_Hds (h : Rdg enc Tryz.prog w held 22 cs d) : ∃ v l, cs = [v] ∧ HdSl (fun b => b < w.heap.size) w.heap v l :=
 rdg_slice (e := 35) (k := 7) (bytes := 104) (by kernel_rfl) (by kernel_rfl) (by decide) (by kernel_rfl) (by decide) (fun _ _ h => rd_Hd h) h

/-! Arguments. -/
variable {base : Nat} {v : Value}
theorem ag_str (h : Value.okWide Tryz.prog w .any base 9 v ∧ Rdg enc Tryz.prog w true 9 v.cells.toList d) : ∃ s, v = .string s ∧ Sz s := by
 obtain ⟨s, rfl⟩ := okWide_string und_str h.1
 obtain ⟨u, e, hu⟩ := rdg_str und_str h.2
 simp [Value.cells] at e; subst e
 exact ⟨_, rfl, hu⟩
theorem ag_int (h : Value.okWide Tryz.prog w .any base 3 v ∧ Rdg enc Tryz.prog w true 3 v.cells.toList d) : ∃ n, v = .int .i64 n ∧ I64 n := by
 obtain ⟨s, rfl⟩ := okWide_int und_int h.1
 obtain ⟨u, e, hu⟩ := rdg_int und_int h.2
 simp [Value.cells] at e; subst e
 exact ⟨_, rfl, I64_wf hu⟩
theorem ag_hds (h : Value.okWide Tryz.prog w .any base 22 v ∧ Rdg enc Tryz.prog w true 22 v.cells.toList d) : ∃ l, HdSl (fun b => b < w.heap.size) w.heap v l := by
 obtain ⟨a, n, c, rfl⟩ := okWide_slice (e := 35) (by kernel_rfl) h.1
 obtain ⟨u, l, e, hu⟩ := rd_Hds h.2
 simp [Value.cells] at e; subst e
 exact ⟨l, hu⟩
theorem ag_strs (h : Value.okWide Tryz.prog w .any base 74 v ∧ Rdg enc Tryz.prog w true 74 v.cells.toList d) : ∃ l, StrSl (fun b => b < w.heap.size) w.heap v l := by
 obtain ⟨a, n, c, rfl⟩ := okWide_slice (e := 9) (by kernel_rfl) h.1
 obtain ⟨u, l, e, hu⟩ := rd_Strs h.2
 simp [Value.cells] at e; subst e
 exact ⟨l, hu⟩
theorem ag_agg {t n : Nat} {l : List (TypeId × Nat × Nat)} (hf : fieldsOf Tryz.prog t = some l) (h : Value.okWide Tryz.prog w .any base t v) : ∃ cs : List Value, v = .agg cs.toArray ∧ v.cells.toList = cs := by
 unfold fieldsOf at hf
 split at hf
 ·rename_i fs hu
  simp only [Value.okWide, hu] at h
  obtain ⟨cs, rfl, -⟩ := h
  exact ⟨cs.toList, by simp, rfl⟩
 ·cases hf
theorem ag_nm (h : Value.okWide Tryz.prog w .any base 24 v ∧ Rdg enc Tryz.prog w true 24 v.cells.toList d) : ∃ n : Nm, v = .agg #[.int .i64 n.client, .int .i64 n.num] ∧ n.ok := by
 obtain ⟨cs, rfl, e⟩ := ag_agg (n := 2) (l := [(3, 0, 1), (3, 1, 1)]) (by kernel_rfl) h.1
 have h2 := h.2
 rw [e] at h2
 obtain ⟨n, rfl, hn⟩ := rd_Nm h2
 exact ⟨n, rfl, hn⟩
end
end Go.WK
/-
 A span, read.
-/
namespace Go.WK
open Go Go.Proofs Go.RowKit Go.WideShapes

section
variable {H : Type} {enc : TypeId × Value → H} {w : World} {held : Bool} {cs : List Value} {d : DataW H} {base : Nat} {v : Value}
theorem rd_Spn (h : Rdg enc Tryz.prog w held 31 cs d) : ∃ lo hi, cs = [.string lo, .string hi] ∧ Sz lo ∧ Sz hi := by
 obtain ⟨hl, hf⟩ := rdg_fields (l := [(9, 0, 1), (9, 1, 1)]) (n := 2) (by kernel_rfl) (by kernel_rfl) h
 obtain ⟨_, y0⟩ := hf 0 _ _ _ rfl
 obtain ⟨_, y1⟩ := hf 1 _ _ _ rfl
 match cs, hl with
 | [c0, c1], _ =>
  obtain ⟨s, e0, w0⟩ := rdg_str und_str y0
  obtain ⟨u, e1, w1⟩ := rdg_str und_str y1
  simp at e0 e1
  subst e0 e1
  exact ⟨s, u, rfl, w0, w1⟩
theorem ag_spn (h : Value.okWide Tryz.prog w .any base 31 v ∧ Rdg enc Tryz.prog w true 31 v.cells.toList d) : ∃ lo hi, v = .agg #[.string lo, .string hi] ∧ Sz lo ∧ Sz hi := by
 obtain ⟨cs, rfl, e⟩ := ag_agg (n := 2) (l := [(9, 0, 1), (9, 1, 1)]) (by kernel_rfl) h.1
 have h2 := h.2
 rw [e] at h2
 obtain ⟨lo, hi, rfl, hn⟩ := rd_Spn h2
 exact ⟨lo, hi, rfl, hn⟩
end
end Go.WK
/-
 Bytes, read.
-/
namespace Go.WK
open Go Go.Proofs Go.RowKit Go.WideShapes

section
variable {H : Type} {enc : TypeId × Value → H} {w : World} {held : Bool} {cs : List Value} {d : DataW H} {base : Nat} {v : Value}
theorem und_u8 : Tryz.prog.underlying 5 = some (.int .u8) := by kernel_rfl
theorem rd_Bytes (h : Rdg enc Tryz.prog w held 46 cs d) : ∃ v l, cs = [v] ∧ BSl (fun b => b < w.heap.size) w.heap v l :=
 rdg_slice (e := 5) (k := 1) (bytes := 1) (by kernel_rfl) (by kernel_rfl) (by decide) (by kernel_rfl) (by decide) (fun _ _ h => by
  obtain ⟨n, e, hn⟩ := rdg_int und_u8 h
  have hb := U8_wf hn
  refine ⟨UInt8.ofNat n.toNat, ?_⟩
  have : ((UInt8.ofNat n.toNat).toNat : Int) = n := by rw [u8n (by omega)]; omega
  unfold ElB
  rw [this]; exact e) h
theorem ag_bytes (h : Value.okWide Tryz.prog w .any base 46 v ∧ Rdg enc Tryz.prog w true 46 v.cells.toList d) : ∃ l, BSl (fun b => b < w.heap.size) w.heap v l := by
 obtain ⟨a, n, c, rfl⟩ := okWide_slice (e := 5) (by kernel_rfl) h.1
 obtain ⟨u, l, e, hu⟩ := rd_Bytes h.2
 simp [Value.cells] at e; subst e
 exact ⟨l, hu⟩
end
end Go.WK
