/-
  HoldsSpans: holds of a table in the document's shape, spans of them, taken and put back, written and read again. Part 14 of 14.
-/
import Derived.Test.YtcafflmhjgnehaaGreatDoorHoldsSpansQ12
import Derived.Test.YtcafflmhjgnehaaGreatDoorHoldsSpansQ10
import Derived.Test.YtcafflmhjgnehaaGreatDoorRows
import Derived.Test.YtcafflmhjgnehaaGreatDoorCards
import Derived.Test.YtcafflmhjgnehaaGreatDoorTie
import Derived.LaidMore
import Derived.Lay
import Derived.SevenTiedAt
set_option linter.unusedSimpArgs false
set_option linter.unusedVariables false
set_option linter.defProp false
set_option maxRecDepth 100000
/-
  HoldsSpans: for every input the law's function returns true and leaves its arguments as they were.
-/
namespace Go.Proofs.YtcafflmhjgnehaaGreatDoor
open Go.WK Go.ChangeShapes Go.WideShapes Go.ChangeAt Go.RowKit

set_option maxRecDepth 100000 in
theorem holdsSpans_lifted (os : Os) (started : os.Started) (H : Type) (enc : TypeId × Value → H) :
    ReturnsInHanded {} Tryz.checked os 5 .any (fun w args => (Rows.holdsSpansSpec.pre enc Tryz.prog Tryz.f5 [] false w args ∧ laidMetH Tryz.prog Rows.holdsSpansRow.laid w) ∧ sizedMet enc Tryz.prog Tryz.f5 (OpenSpec.ofChange Rows.holdsSpansSpec) false w args)
      (Rows.holdsSpansSpec.post enc Tryz.prog Tryz.f5 false true false false) := by
  refine law_lift (C := Tryz.checked) (fn := Tryz.f5) (tb := 4) (by kernel_rfl) started (by kernel_rfl) Tryz.func5
    (ChangeSpec.witness_shaped (enc := enc) (C := Tryz.checked) (os := os) (X := fun w _ => laidMetH Tryz.prog Rows.holdsSpansRow.laid w) false (World.laidAll Tryz.prog os Rows.holdsSpansRow.laid) #[.slice none 0 0, .agg #[.string .empty, .string .empty], .string .empty] 8 (World.laidAll_os _ _ _)
      (World.shaped_of_ZipB (by kernel_rfl) (by kernel_rfl)) (by kernel_rfl) (by kernel_rfl) (by kernel_rfl)
      (by rw [MakeChecks.laidMetH_plain _ _ _ (by kernel_rfl)]; exact laidMet_laidAll _ (by kernel_rfl) (by kernel_rfl)))
    (by kernel_rfl) (by kernel_rfl) rfl (fun ds hd => ?_) (by kernel_rfl) (by kernel_rfl) ?_
  · rw [Tryz.params5] at hd
    have hd : ds.length = 3 := hd
    match ds, hd with
    | [a, b, c], _ => rfl
  · intro W base args ds hL hA
    rw [Tryz.params5] at hA
    obtain ⟨args⟩ := args
    obtain ⟨v0, r0, d0, rfl, h0, _, g0⟩ := args_cons hA
    obtain ⟨v1, r1, d1, rfl, h1, _, g1⟩ := args_cons g0
    obtain ⟨v2, r2, d2, rfl, h2, _, g2⟩ := args_cons g1
    obtain rfl := args_nil g2
    obtain ⟨l, hl⟩ := ag_hds h0
    obtain ⟨lo, hi, rfl, hlo, hhi⟩ := ag_spn h1
    obtain ⟨s, rfl, hs⟩ := ag_str h2
    exact HoldsSpans_cl hl hlo hhi hs
theorem holdsSpans_said : Rows.HoldsSpansSaid :=
  OpenClaim.holds_of_wide 5 Tryz.f5 rfl rfl rfl rfl rfl rfl rfl ⟨rfl, rfl, rfl, rfl, rfl⟩ rfl rfl rfl rfl rfl (by kernel_rfl) Tryz.func5 (by kernel_rfl)
    (of_decide_eq_true (by kernel_rfl)) (by unfold Func.isWrapper; first | (rw [if_pos (by decide +kernel)]; kernel_rfl) | (rw [if_neg (by decide +kernel)]; exact ⟨rfl, rfl⟩))
    (fun os started H enc _ => holdsSpans_lifted os started H enc)
theorem holdsSpans_holds : Rows.HoldsSpansCardSaid :=
  Claim7.holds_tied_plain_at .later [] [.data, .pinned] true (true, "88496b8fca19cd93dd7b797507beea7ef6d8dad5271beb446c7c02a51ffc4a49") false holdsSpans_said (fun _ h => by cases h) (by kernel_rfl) (fun _ h => by cases h) holdsSpans_row_tie rfl ⟨rfl, rfl⟩ (by kernel_rfl) rfl
    (fun f fn hf hfn => by
      obtain rfl : f = 5 := Option.some.inj ((show Tryz.prog.funcNamed "watershed/watershedlaw16.HoldsSpans" = some 5 by kernel_rfl).symm.trans hf) |>.symm
      obtain rfl : fn = Tryz.f5 := (Option.some.inj (Tryz.func5.symm.trans hfn)).symm
      exact ⟨by kernel_rfl, fun j t ht => by
        have hall : (Tryz.f5.params.toList.all fun u => !Tryz.prog.wantsStandIn u) = true := by kernel_rfl
        have hm : t ∈ Tryz.f5.params.toList := by simpa using Array.mem_of_getElem? ht
        exact (show Tryz.prog.wantsStandIn t = false by simpa using List.all_eq_true.1 hall t hm)⟩)
    (by kernel_rfl)
#print axioms holdsSpans_holds
end Go.Proofs.YtcafflmhjgnehaaGreatDoor
