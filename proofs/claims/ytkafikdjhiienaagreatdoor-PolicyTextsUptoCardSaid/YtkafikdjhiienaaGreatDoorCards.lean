/-
  DERIVED. GIVEN WITH THE SEED: THE CARDS: each row of YtkafikdjhiienaaGreatDoorRows.lean that lists a variable, with what it lists TIED to the program's text (the seventh form; the later family's looks); each row that meets fmt, with fmt's text TOLD by the authors' own Lean function (tested against real Go, not proved from fmt's source: count such statements apart). THE CARD IS WHAT COUNTS. Prove the row's statement (the work); the ties are given (YtkafikdjhiienaaGreatDoorTie.lean); close each card by the builder's one call (the guide's Derived/Test/ToyasCard.lean, 'card_holds'). Laid BY PROGRAM, IN A SANDBOX (cutbox-door.mjs). By AI agents, Wed Nov 11 2026. No macro, syntax, notation, axiom, sorry.
-/
import Derived.Test.YtkafikdjhiienaaGreatDoorRows
import GoSem.ClaimSeven
namespace Go.Proofs.YtkafikdjhiienaaGreatDoor
namespace Rows

/-- THE TIED CARD OF 'suffraganlaw12.PolicyHolds'. -/
def policyHoldsCard : Claim7 := { stood := { row := policyHoldsRow, standIns := [], harness := (true, "d7ede34d34b33b24f05c622deff61f51cdad6c04e376c274992ddfb786bf7801"), looks := true }, kinds := [], alts := [], laidByText := true, laidKinds := [.data, .data, .data, .widerDeep, .data], laidTests := true, laidLooks := .later }
def PolicyHoldsCardSaid : Prop := Claim7.holds Tryz.pinned (.plain (OpenSpec.ofChange policyHoldsSpec)) policyHoldsCard

/-- THE TIED CARD OF 'suffraganlaw12.PolicySteps'. -/
def policyStepsCard : Claim7 := { stood := { row := policyStepsRow, standIns := [], harness := (true, "d7ede34d34b33b24f05c622deff61f51cdad6c04e376c274992ddfb786bf7801"), looks := true }, kinds := [], alts := [], laidByText := true, laidKinds := [.data, .data, .data, .widerDeep, .data], laidTests := true, laidLooks := .later }
def PolicyStepsCardSaid : Prop := Claim7.holds Tryz.pinned (.plain (OpenSpec.ofChange policyStepsSpec)) policyStepsCard

/-- THE TIED CARD OF 'suffraganlaw12.PolicyImplies'. -/
def policyImpliesCard : Claim7 := { stood := { row := policyImpliesRow, standIns := [], harness := (true, "d7ede34d34b33b24f05c622deff61f51cdad6c04e376c274992ddfb786bf7801"), looks := true }, kinds := [], alts := [], laidByText := true, laidKinds := [.data, .data, .data, .widerDeep, .data], laidTests := true, laidLooks := .later }
def PolicyImpliesCardSaid : Prop := Claim7.holds Tryz.pinned (.plain (OpenSpec.ofChange policyImpliesSpec)) policyImpliesCard

/-- THE TIED CARD OF 'suffraganlaw12.PolicyTexts'. -/
def policyTextsCard : Claim7 := { stood := { row := policyTextsRow, standIns := [], harness := (true, "d7ede34d34b33b24f05c622deff61f51cdad6c04e376c274992ddfb786bf7801"), looks := true }, kinds := [], alts := [], laidByText := true, laidKinds := [.data, .data, .data, .widerDeep, .data], laidTests := true, laidLooks := .later }
def PolicyTextsCardSaid : Prop := Claim7.holds Tryz.pinned (.plain (OpenSpec.ofChange policyTextsSpec)) policyTextsCard

/-- THE TIED CARD OF 'suffraganlaw12.PolicyAdmits'. -/
def policyAdmitsCard : Claim7 := { stood := { row := policyAdmitsRow, standIns := [], harness := (true, "d7ede34d34b33b24f05c622deff61f51cdad6c04e376c274992ddfb786bf7801"), looks := true }, kinds := [], alts := [], laidByText := true, laidKinds := [.data, .data, .data, .widerDeep, .data], laidTests := true, laidLooks := .later }
def PolicyAdmitsCardSaid : Prop := Claim7.holds Tryz.pinned (.plain (OpenSpec.ofChange policyAdmitsSpec)) policyAdmitsCard

/-- THE TIED CARD OF 'suffraganlaw12.PolicySound'. -/
def policySoundCard : Claim7 := { stood := { row := policySoundRow, standIns := [], harness := (true, "d7ede34d34b33b24f05c622deff61f51cdad6c04e376c274992ddfb786bf7801"), looks := true }, kinds := [], alts := [], laidByText := true, laidKinds := [.data, .data, .data, .widerDeep, .data], laidTests := true, laidLooks := .later }
def PolicySoundCardSaid : Prop := Claim7.holds Tryz.pinned (.plain (OpenSpec.ofChange policySoundSpec)) policySoundCard

/-- THE TIED CARD OF 'suffraganlaw12.PolicyBegins'. -/
def policyBeginsCard : Claim7 := { stood := { row := policyBeginsRow, standIns := [], harness := (true, "d7ede34d34b33b24f05c622deff61f51cdad6c04e376c274992ddfb786bf7801"), looks := true }, kinds := [], alts := [], laidByText := true, laidKinds := [.data, .data, .data, .widerDeep, .data], laidTests := true, laidLooks := .later }
def PolicyBeginsCardSaid : Prop := Claim7.holds Tryz.pinned (.plain (OpenSpec.ofChange policyBeginsSpec)) policyBeginsCard

/-- THE SECOND FORM's CARD OF 'suffraganlaw12.PolicyHolds'. -/
def policyHoldsUptoCard : Claim7 := { stood := { row := policyHoldsUptoRow, standIns := [], harness := (true, "d7ede34d34b33b24f05c622deff61f51cdad6c04e376c274992ddfb786bf7801"), looks := true }, kinds := [], alts := [], laidByText := true, laidKinds := [.data, .data, .data, .widerDeep, .data], laidTests := true, laidLooks := .later }
def PolicyHoldsUptoCardSaid : Prop := Claim7.holds Tryz.pinned (.plain (OpenSpec.upto policyHoldsSpec)) policyHoldsUptoCard

/-- THE SECOND FORM's CARD OF 'suffraganlaw12.PolicySteps'. -/
def policyStepsUptoCard : Claim7 := { stood := { row := policyStepsUptoRow, standIns := [], harness := (true, "d7ede34d34b33b24f05c622deff61f51cdad6c04e376c274992ddfb786bf7801"), looks := true }, kinds := [], alts := [], laidByText := true, laidKinds := [.data, .data, .data, .widerDeep, .data], laidTests := true, laidLooks := .later }
def PolicyStepsUptoCardSaid : Prop := Claim7.holds Tryz.pinned (.plain (OpenSpec.upto policyStepsSpec)) policyStepsUptoCard

/-- THE SECOND FORM's CARD OF 'suffraganlaw12.PolicyImplies'. -/
def policyImpliesUptoCard : Claim7 := { stood := { row := policyImpliesUptoRow, standIns := [], harness := (true, "d7ede34d34b33b24f05c622deff61f51cdad6c04e376c274992ddfb786bf7801"), looks := true }, kinds := [], alts := [], laidByText := true, laidKinds := [.data, .data, .data, .widerDeep, .data], laidTests := true, laidLooks := .later }
def PolicyImpliesUptoCardSaid : Prop := Claim7.holds Tryz.pinned (.plain (OpenSpec.upto policyImpliesSpec)) policyImpliesUptoCard

/-- THE SECOND FORM's CARD OF 'suffraganlaw12.PolicyTexts'. -/
def policyTextsUptoCard : Claim7 := { stood := { row := policyTextsUptoRow, standIns := [], harness := (true, "d7ede34d34b33b24f05c622deff61f51cdad6c04e376c274992ddfb786bf7801"), looks := true }, kinds := [], alts := [], laidByText := true, laidKinds := [.data, .data, .data, .widerDeep, .data], laidTests := true, laidLooks := .later }
def PolicyTextsUptoCardSaid : Prop := Claim7.holds Tryz.pinned (.plain (OpenSpec.upto policyTextsSpec)) policyTextsUptoCard

/-- THE SECOND FORM's CARD OF 'suffraganlaw12.PolicyAdmits'. -/
def policyAdmitsUptoCard : Claim7 := { stood := { row := policyAdmitsUptoRow, standIns := [], harness := (true, "d7ede34d34b33b24f05c622deff61f51cdad6c04e376c274992ddfb786bf7801"), looks := true }, kinds := [], alts := [], laidByText := true, laidKinds := [.data, .data, .data, .widerDeep, .data], laidTests := true, laidLooks := .later }
def PolicyAdmitsUptoCardSaid : Prop := Claim7.holds Tryz.pinned (.plain (OpenSpec.upto policyAdmitsSpec)) policyAdmitsUptoCard

/-- THE SECOND FORM's CARD OF 'suffraganlaw12.PolicySound'. -/
def policySoundUptoCard : Claim7 := { stood := { row := policySoundUptoRow, standIns := [], harness := (true, "d7ede34d34b33b24f05c622deff61f51cdad6c04e376c274992ddfb786bf7801"), looks := true }, kinds := [], alts := [], laidByText := true, laidKinds := [.data, .data, .data, .widerDeep, .data], laidTests := true, laidLooks := .later }
def PolicySoundUptoCardSaid : Prop := Claim7.holds Tryz.pinned (.plain (OpenSpec.upto policySoundSpec)) policySoundUptoCard

/-- THE SECOND FORM's CARD OF 'suffraganlaw12.PolicyBegins'. -/
def policyBeginsUptoCard : Claim7 := { stood := { row := policyBeginsUptoRow, standIns := [], harness := (true, "d7ede34d34b33b24f05c622deff61f51cdad6c04e376c274992ddfb786bf7801"), looks := true }, kinds := [], alts := [], laidByText := true, laidKinds := [.data, .data, .data, .widerDeep, .data], laidTests := true, laidLooks := .later }
def PolicyBeginsUptoCardSaid : Prop := Claim7.holds Tryz.pinned (.plain (OpenSpec.upto policyBeginsSpec)) policyBeginsUptoCard
end Rows
end Go.Proofs.YtkafikdjhiienaaGreatDoor
