/-
  HoldsBytes: for every list of holds and every bytes in memory the function returns true, does not panic and leaves what was there; its condition is the one of its row. Part 14 of 14.
-/
import Derived.Test.YtcafflmhjgnehaaGreatDoorHoldsBytesQ12
import Derived.Test.YtcafflmhjgnehaaGreatDoorHoldsBytesQ10
import Derived.Test.YtcafflmhjgnehaaGreatDoorRows
import Derived.Test.YtcafflmhjgnehaaGreatDoorCards
import Derived.Test.YtcafflmhjgnehaaGreatDoorTie
import Derived.LaidMore
import Derived.Lay
import Derived.SevenTiedAt
set_option linter.unusedSimpArgs false
set_option linter.unusedVariables false
set_option linter.defProp false
set_option maxRecDepth 100000
/-
 HoldsBytes: for every input the law's function returns true and leaves its arguments as they were.
-/
namespace Go.Proofs.YtcafflmhjgnehaaGreatDoor
open Go.WK Go.ChangeShapes Go.WideShapes Go.ChangeAt Go.RowKit

set_option maxRecDepth 100000 in
theorem holdsBytes_lifted (os : Os) (started : os.Started) (H : Type) (enc : TypeId × Value → H) :
  ReturnsInHanded {} Tryz.checked os 4 .any (fun w args => (Rows.holdsBytesSpec.pre enc Tryz.prog Tryz.f4 [] false w args ∧ laidMetH Tryz.prog Rows.holdsBytesRow.laid w) ∧ sizedMet enc Tryz.prog Tryz.f4 (OpenSpec.ofChange Rows.holdsBytesSpec) false w args)
   (Rows.holdsBytesSpec.post enc Tryz.prog Tryz.f4 false true false false) := by
 refine law_lift (C := Tryz.checked) (fn := Tryz.f4) (tb := 4) (by kernel_rfl) started (by kernel_rfl) Tryz.func4
  (ChangeSpec.witness_shaped (enc := enc) (C := Tryz.checked) (os := os) (X := fun w _ => laidMetH Tryz.prog Rows.holdsBytesRow.laid w) false (World.laidAll Tryz.prog os Rows.holdsBytesRow.laid) #[.slice none 0 0, .slice none 0 0] 8 (World.laidAll_os _ _ _)
   (World.shaped_of_ZipB (by kernel_rfl) (by kernel_rfl)) (by kernel_rfl) (by kernel_rfl) (by kernel_rfl)
   (by rw [MakeChecks.laidMetH_plain _ _ _ (by kernel_rfl)]; exact laidMet_laidAll _ (by kernel_rfl) (by kernel_rfl)))
  (by kernel_rfl) (by kernel_rfl) rfl (fun ds hd => ?_) (by kernel_rfl) (by kernel_rfl) ?_
 ·rw [Tryz.params4] at hd
  have hd : ds.length = 2 := hd
  match ds, hd with
  | [a, b], _ => rfl
 ·intro W base args ds hL hA
  rw [Tryz.params4] at hA
  obtain ⟨args⟩ := args
  obtain ⟨v0, r0, d0, rfl, h0, _, g0⟩ := args_cons hA
  obtain ⟨v1, r1, d1, rfl, h1, _, g1⟩ := args_cons g0
  obtain rfl := args_nil g1
  obtain ⟨l, hl⟩ := ag_hds h0
  obtain ⟨bs, hb⟩ := ag_bytes h1
  exact HoldsBytes_cl hl hb
theorem holdsBytes_said : Rows.HoldsBytesSaid :=
 OpenClaim.holds_of_wide 4 Tryz.f4 rfl rfl rfl rfl rfl rfl rfl ⟨rfl, rfl, rfl, rfl, rfl⟩ rfl rfl rfl rfl rfl (by kernel_rfl) Tryz.func4 (by kernel_rfl)
  (of_decide_eq_true (by kernel_rfl)) (by unfold Func.isWrapper; first | (rw [if_pos (by decide +kernel)]; kernel_rfl) | (rw [if_neg (by decide +kernel)]; exact ⟨rfl, rfl⟩))
  (fun os started H enc _ => holdsBytes_lifted os started H enc)
theorem holdsBytes_holds : Rows.HoldsBytesCardSaid :=
 Claim7.holds_tied_plain_at .later [] [.data, .pinned] true (true, "88496b8fca19cd93dd7b797507beea7ef6d8dad5271beb446c7c02a51ffc4a49") false holdsBytes_said (fun _ h => by cases h) (by kernel_rfl) (fun _ h => by cases h) holdsBytes_row_tie rfl ⟨rfl, rfl⟩ (by kernel_rfl) rfl
  (fun f fn hf hfn => by
   obtain rfl : f = 4 := Option.some.inj ((show Tryz.prog.funcNamed "watershed/watershedlaw16.HoldsBytes" = some 4 by kernel_rfl).symm.trans hf) |>.symm
   obtain rfl : fn = Tryz.f4 := (Option.some.inj (Tryz.func4.symm.trans hfn)).symm
   exact ⟨by kernel_rfl, fun j t ht => by
    have hall : (Tryz.f4.params.toList.all fun u => !Tryz.prog.wantsStandIn u) = true := by kernel_rfl
    have hm : t ∈ Tryz.f4.params.toList := by simpa using Array.mem_of_getElem? ht
    exact (show Tryz.prog.wantsStandIn t = false by simpa using List.all_eq_true.1 hall t hm)⟩)
  (by kernel_rfl)
#print axioms holdsBytes_holds
end Go.Proofs.YtcafflmhjgnehaaGreatDoor
