/-
  HoldsNil of the layer holds: for every input the law's function returns true and its arguments read as before; conditions: the listed tables hold what the program's text lays. Part 13 of 13.
-/
import Derived.Test.YtcafflmhjgnehaaGreatDoorHoldsNilQ11
import Derived.Test.YtcafflmhjgnehaaGreatDoorHoldsNilQ10
import Derived.Test.YtcafflmhjgnehaaGreatDoorRows
import Derived.Test.YtcafflmhjgnehaaGreatDoorCards
import Derived.Test.YtcafflmhjgnehaaGreatDoorTie
import Derived.LaidMore
import Derived.Lay
import Derived.SevenTiedAt
set_option linter.unusedSimpArgs false
set_option linter.unusedVariables false
set_option linter.defProp false
set_option maxRecDepth 100000
/-
  HoldsNil: for every input the law's function returns true and leaves its arguments as they were.
-/
namespace Go.Proofs.YtcafflmhjgnehaaGreatDoor
open Go.WK Go.ChangeShapes Go.WideShapes Go.ChangeAt Go.RowKit

set_option maxRecDepth 100000 in
theorem holdsNil_lifted (os : Os) (started : os.Started) (H : Type) (enc : TypeId × Value → H) :
    ReturnsInHanded {} Tryz.checked os 7 .any (fun w args => (Rows.holdsNilSpec.pre enc Tryz.prog Tryz.f7 [] false w args ∧ laidMetH Tryz.prog Rows.holdsNilRow.laid w) ∧ sizedMet enc Tryz.prog Tryz.f7 (OpenSpec.ofChange Rows.holdsNilSpec) false w args)
      (Rows.holdsNilSpec.post enc Tryz.prog Tryz.f7 false true false false) := by
  refine law_lift (C := Tryz.checked) (fn := Tryz.f7) (tb := 4) (by kernel_rfl) started (by kernel_rfl) Tryz.func7
    (ChangeSpec.witness_shaped (enc := enc) (C := Tryz.checked) (os := os) (X := fun w _ => laidMetH Tryz.prog Rows.holdsNilRow.laid w) false (World.laidAll Tryz.prog os Rows.holdsNilRow.laid) #[.slice none 0 0, .string .empty] 8 (World.laidAll_os _ _ _)
      (World.shaped_of_ZipB (by kernel_rfl) (by kernel_rfl)) (by kernel_rfl) (by kernel_rfl) (by kernel_rfl)
      (by rw [MakeChecks.laidMetH_plain _ _ _ (by kernel_rfl)]; exact laidMet_laidAll _ (by kernel_rfl) (by kernel_rfl)))
    (by kernel_rfl) (by kernel_rfl) rfl (fun ds hd => ?_) (by kernel_rfl) (by kernel_rfl) ?_
  · rw [Tryz.params7] at hd
    have hd : ds.length = 2 := hd
    match ds, hd with
    | [a, b], _ => rfl
  · intro W base args ds hL hA
    rw [Tryz.params7] at hA
    obtain ⟨args⟩ := args
    obtain ⟨v0, r0, d0, rfl, h0, _, g0⟩ := args_cons hA
    obtain ⟨v1, r1, d1, rfl, h1, _, g1⟩ := args_cons g0
    obtain rfl := args_nil g1
    obtain ⟨l, hl⟩ := ag_hds h0
    obtain ⟨s, rfl, hs⟩ := ag_str h1
    exact HoldsNil_cl hl hs
theorem holdsNil_said : Rows.HoldsNilSaid :=
  OpenClaim.holds_of_wide 7 Tryz.f7 rfl rfl rfl rfl rfl rfl rfl ⟨rfl, rfl, rfl, rfl, rfl⟩ rfl rfl rfl rfl rfl (by kernel_rfl) Tryz.func7 (by kernel_rfl)
    (of_decide_eq_true (by kernel_rfl)) (by unfold Func.isWrapper; first | (rw [if_pos (by decide +kernel)]; kernel_rfl) | (rw [if_neg (by decide +kernel)]; exact ⟨rfl, rfl⟩))
    (fun os started H enc _ => holdsNil_lifted os started H enc)
theorem holdsNil_holds : Rows.HoldsNilCardSaid :=
  Claim7.holds_tied_plain_at .later [] [.data, .pinned] true (true, "88496b8fca19cd93dd7b797507beea7ef6d8dad5271beb446c7c02a51ffc4a49") false holdsNil_said (fun _ h => by cases h) (by kernel_rfl) (fun _ h => by cases h) holdsNil_row_tie rfl ⟨rfl, rfl⟩ (by kernel_rfl) rfl
    (fun f fn hf hfn => by
      obtain rfl : f = 7 := Option.some.inj ((show Tryz.prog.funcNamed "watershed/watershedlaw16.HoldsNil" = some 7 by kernel_rfl).symm.trans hf) |>.symm
      obtain rfl : fn = Tryz.f7 := (Option.some.inj (Tryz.func7.symm.trans hfn)).symm
      exact ⟨by kernel_rfl, fun j t ht => by
        have hall : (Tryz.f7.params.toList.all fun u => !Tryz.prog.wantsStandIn u) = true := by kernel_rfl
        have hm : t ∈ Tryz.f7.params.toList := by simpa using Array.mem_of_getElem? ht
        exact (show Tryz.prog.wantsStandIn t = false by simpa using List.all_eq_true.1 hall t hm)⟩)
    (by kernel_rfl)
#print axioms holdsNil_holds
end Go.Proofs.YtcafflmhjgnehaaGreatDoor
