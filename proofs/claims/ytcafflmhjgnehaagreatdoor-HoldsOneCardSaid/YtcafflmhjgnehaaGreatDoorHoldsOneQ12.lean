/-
  HoldsOne of the layer holds: for every input the law's function returns true and its arguments read as before; conditions: the listed tables hold what the program's text lays. Part 13 of 13.
-/
import Derived.Test.YtcafflmhjgnehaaGreatDoorHoldsOneQ11
import Derived.Test.YtcafflmhjgnehaaGreatDoorHoldsOneQ10
import Derived.Test.YtcafflmhjgnehaaGreatDoorRows
import Derived.Test.YtcafflmhjgnehaaGreatDoorCards
import Derived.Test.YtcafflmhjgnehaaGreatDoorTie
import Derived.LaidMore
import Derived.Lay
import Derived.SevenTiedAt
set_option linter.unusedSimpArgs false
set_option linter.unusedVariables false
set_option linter.defProp false
set_option maxRecDepth 100000
/-
  HoldsOne: for every input the law's function returns true and leaves its arguments as they were.
-/
namespace Go.Proofs.YtcafflmhjgnehaaGreatDoor
open Go.WK Go.ChangeShapes Go.WideShapes Go.ChangeAt Go.RowKit

set_option maxRecDepth 100000 in
theorem holdsOne_lifted (os : Os) (started : os.Started) (H : Type) (enc : TypeId × Value → H) :
    ReturnsInHanded {} Tryz.checked os 3 .any (fun w args => (Rows.holdsOneSpec.pre enc Tryz.prog Tryz.f3 [] false w args ∧ laidMetH Tryz.prog Rows.holdsOneRow.laid w) ∧ sizedMet enc Tryz.prog Tryz.f3 (OpenSpec.ofChange Rows.holdsOneSpec) false w args)
      (Rows.holdsOneSpec.post enc Tryz.prog Tryz.f3 false true false false) := by
  refine law_lift (C := Tryz.checked) (fn := Tryz.f3) (tb := 4) (by kernel_rfl) started (by kernel_rfl) Tryz.func3
    (ChangeSpec.witness_shaped (enc := enc) (C := Tryz.checked) (os := os) (X := fun w _ => laidMetH Tryz.prog Rows.holdsOneRow.laid w) false (World.laidAll Tryz.prog os Rows.holdsOneRow.laid) #[.slice none 0 0, .string .empty, .agg #[.int .i64 0, .int .i64 0]] 8 (World.laidAll_os _ _ _)
      (World.shaped_of_ZipB (by kernel_rfl) (by kernel_rfl)) (by kernel_rfl) (by kernel_rfl) (by kernel_rfl)
      (by rw [MakeChecks.laidMetH_plain _ _ _ (by kernel_rfl)]; exact laidMet_laidAll _ (by kernel_rfl) (by kernel_rfl)))
    (by kernel_rfl) (by kernel_rfl) rfl (fun ds hd => ?_) (by kernel_rfl) (by kernel_rfl) ?_
  · rw [Tryz.params3] at hd
    have hd : ds.length = 3 := hd
    match ds, hd with
    | [a, b, c], _ => rfl
  · intro W base args ds hL hA
    rw [Tryz.params3] at hA
    obtain ⟨args⟩ := args
    obtain ⟨v0, r0, d0, rfl, h0, _, g0⟩ := args_cons hA
    obtain ⟨v1, r1, d1, rfl, h1, _, g1⟩ := args_cons g0
    obtain ⟨v2, r2, d2, rfl, h2, _, g2⟩ := args_cons g1
    obtain rfl := args_nil g2
    obtain ⟨l, hl⟩ := ag_hds h0
    obtain ⟨s, rfl, hs⟩ := ag_str h1
    obtain ⟨n, rfl, hn⟩ := ag_nm h2
    exact HoldsOne_cl hl hs hn
theorem holdsOne_said : Rows.HoldsOneSaid :=
  OpenClaim.holds_of_wide 3 Tryz.f3 rfl rfl rfl rfl rfl rfl rfl ⟨rfl, rfl, rfl, rfl, rfl⟩ rfl rfl rfl rfl rfl (by kernel_rfl) Tryz.func3 (by kernel_rfl)
    (of_decide_eq_true (by kernel_rfl)) (by unfold Func.isWrapper; first | (rw [if_pos (by decide +kernel)]; kernel_rfl) | (rw [if_neg (by decide +kernel)]; exact ⟨rfl, rfl⟩))
    (fun os started H enc _ => holdsOne_lifted os started H enc)
theorem holdsOne_holds : Rows.HoldsOneCardSaid :=
  Claim7.holds_tied_plain_at .later [] [.data, .pinned] true (true, "88496b8fca19cd93dd7b797507beea7ef6d8dad5271beb446c7c02a51ffc4a49") false holdsOne_said (fun _ h => by cases h) (by kernel_rfl) (fun _ h => by cases h) holdsOne_row_tie rfl ⟨rfl, rfl⟩ (by kernel_rfl) rfl
    (fun f fn hf hfn => by
      obtain rfl : f = 3 := Option.some.inj ((show Tryz.prog.funcNamed "watershed/watershedlaw16.HoldsOne" = some 3 by kernel_rfl).symm.trans hf) |>.symm
      obtain rfl : fn = Tryz.f3 := (Option.some.inj (Tryz.func3.symm.trans hfn)).symm
      exact ⟨by kernel_rfl, fun j t ht => by
        have hall : (Tryz.f3.params.toList.all fun u => !Tryz.prog.wantsStandIn u) = true := by kernel_rfl
        have hm : t ∈ Tryz.f3.params.toList := by simpa using Array.mem_of_getElem? ht
        exact (show Tryz.prog.wantsStandIn t = false by simpa using List.all_eq_true.1 hall t hm)⟩)
    (by kernel_rfl)
#print axioms holdsOne_holds
end Go.Proofs.YtcafflmhjgnehaaGreatDoor
