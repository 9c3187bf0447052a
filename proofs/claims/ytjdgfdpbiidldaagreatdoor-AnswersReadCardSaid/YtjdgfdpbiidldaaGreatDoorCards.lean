/-
  DERIVED. GIVEN WITH THE SEED: THE CARDS: each row of YtjdgfdpbiidldaaGreatDoorRows.lean that lists a variable, with what it lists TIED to the program's text (the seventh form; the later family's looks); each row that meets fmt, with fmt's text TOLD by the authors' own Lean function (tested against real Go, not proved from fmt's source: count such statements apart). THE CARD IS WHAT COUNTS. Prove the row's statement (the work); the ties are given (YtjdgfdpbiidldaaGreatDoorTie.lean); close each card by the builder's one call (the guide's Derived/Test/ToyasCard.lean, 'card_holds'). Laid BY PROGRAM, IN A SANDBOX (cutbox-door.mjs). By AI agents, Wed Nov 11 2026. No macro, syntax, notation, axiom, sorry.
-/
import Derived.Test.YtjdgfdpbiidldaaGreatDoorRows
import GoSem.ClaimSeven
namespace Go.Proofs.YtjdgfdpbiidldaaGreatDoor
namespace Rows

/-- THE TIED CARD OF 'juristlaw27.AnswersLists'. -/
def answersListsCard : Claim7 := { stood := { row := answersListsRow, standIns := [], harness := (true, "3b3c541b3694999949a548a3a999de94790ef5b47417fac48bd6565e64d309cb"), looks := true }, kinds := [], alts := [], laidByText := true, laidKinds := [.data, .data, .data, .data, .pinned], laidTests := true, laidLooks := .later }
def AnswersListsCardSaid : Prop := Claim7.holds Tryz.pinned (.plain (OpenSpec.ofChange answersListsSpec)) answersListsCard

/-- THE TIED CARD OF 'juristlaw27.AnswersApart'. -/
def answersApartCard : Claim7 := { stood := { row := answersApartRow, standIns := [], harness := (true, "3b3c541b3694999949a548a3a999de94790ef5b47417fac48bd6565e64d309cb"), looks := true }, kinds := [], alts := [], laidByText := true, laidKinds := [.data, .data, .data, .data, .pinned], laidTests := true, laidLooks := .later }
def AnswersApartCardSaid : Prop := Claim7.holds Tryz.pinned (.plain (OpenSpec.ofChange answersApartSpec)) answersApartCard

/-- THE TIED CARD OF 'juristlaw27.AnswersNone'. -/
def answersNoneCard : Claim7 := { stood := { row := answersNoneRow, standIns := [], harness := (true, "3b3c541b3694999949a548a3a999de94790ef5b47417fac48bd6565e64d309cb"), looks := true }, kinds := [], alts := [], laidByText := true, laidKinds := [.data, .data, .data, .data, .pinned], laidTests := true, laidLooks := .later }
def AnswersNoneCardSaid : Prop := Claim7.holds Tryz.pinned (.plain (OpenSpec.ofChange answersNoneSpec)) answersNoneCard

/-- THE TIED CARD OF 'juristlaw27.AnswersRead'. -/
def answersReadCard : Claim7 := { stood := { row := answersReadRow, standIns := [], harness := (true, "3b3c541b3694999949a548a3a999de94790ef5b47417fac48bd6565e64d309cb"), looks := true }, kinds := [], alts := [], laidByText := true, laidKinds := [.data, .data, .data, .data, .sentinel, .sentinel, .pinned], laidTests := true, laidLooks := .later }
def AnswersReadCardSaid : Prop := Claim7.holds Tryz.pinned (.plain (OpenSpec.ofChange answersReadSpec)) answersReadCard

/-- THE TIED CARD OF 'juristlaw08.ShowDeep'. -/
def showDeepCard : Claim7 := { stood := { row := showDeepRow, standIns := [], harness := (true, "3b3c541b3694999949a548a3a999de94790ef5b47417fac48bd6565e64d309cb"), looks := true }, kinds := [], alts := [], laidByText := true, laidKinds := [.data, .data, .data, .data, .sentinel, .sentinel, .pinned], laidTests := true, laidLooks := .later }
def ShowDeepCardSaid : Prop := Claim7.holds Tryz.pinned (.plain (OpenSpec.ofChange showDeepSpec)) showDeepCard

/-- THE TIED CARD OF 'juristlaw08.ShowNone'. -/
def showNoneCard : Claim7 := { stood := { row := showNoneRow, standIns := [], harness := (true, "3b3c541b3694999949a548a3a999de94790ef5b47417fac48bd6565e64d309cb"), looks := true }, kinds := [], alts := [], laidByText := true, laidKinds := [.data, .data, .data, .data, .sentinel, .sentinel, .pinned], laidTests := true, laidLooks := .later }
def ShowNoneCardSaid : Prop := Claim7.holds Tryz.pinned (.plain (OpenSpec.ofChange showNoneSpec)) showNoneCard

/-- THE TIED CARD OF 'juristlaw08.ShowApart'. -/
def showApartCard : Claim7 := { stood := { row := showApartRow, standIns := [], harness := (true, "3b3c541b3694999949a548a3a999de94790ef5b47417fac48bd6565e64d309cb"), looks := true }, kinds := [], alts := [], laidByText := true, laidKinds := [.data, .data, .data, .data, .sentinel, .sentinel, .pinned], laidTests := true, laidLooks := .later }
def ShowApartCardSaid : Prop := Claim7.holds Tryz.pinned (.plain (OpenSpec.ofChange showApartSpec)) showApartCard

/-- THE TIED CARD OF 'juristlaw08.ShowBack'. -/
def showBackCard : Claim7 := { stood := { row := showBackRow, standIns := [], harness := (true, "3b3c541b3694999949a548a3a999de94790ef5b47417fac48bd6565e64d309cb"), looks := true }, kinds := [], alts := [], laidByText := true, laidKinds := [.data, .data, .data, .data, .sentinel, .sentinel, .pinned], laidTests := true, laidLooks := .later }
def ShowBackCardSaid : Prop := Claim7.holds Tryz.pinned (.plain (OpenSpec.ofChange showBackSpec)) showBackCard

/-- THE TIED CARD OF 'juristlaw08.ShowTexts'. -/
def showTextsCard : Claim7 := { stood := { row := showTextsRow, standIns := [], harness := (true, "3b3c541b3694999949a548a3a999de94790ef5b47417fac48bd6565e64d309cb"), looks := true }, kinds := [], alts := [], laidByText := true, laidKinds := [.data, .data, .data, .data, .sentinel, .sentinel, .pinned], laidTests := true, laidLooks := .later }
def ShowTextsCardSaid : Prop := Claim7.holds Tryz.pinned (.plain (OpenSpec.ofChange showTextsSpec)) showTextsCard

/-- THE SECOND FORM's CARD OF 'juristlaw27.AnswersLists'. -/
def answersListsUptoCard : Claim7 := { stood := { row := answersListsUptoRow, standIns := [], harness := (true, "3b3c541b3694999949a548a3a999de94790ef5b47417fac48bd6565e64d309cb"), looks := true }, kinds := [], alts := [], laidByText := true, laidKinds := [.data, .data, .data, .data, .pinned], laidTests := true, laidLooks := .later }
def AnswersListsUptoCardSaid : Prop := Claim7.holds Tryz.pinned (.plain (OpenSpec.upto answersListsSpec)) answersListsUptoCard

/-- THE SECOND FORM's CARD OF 'juristlaw27.AnswersApart'. -/
def answersApartUptoCard : Claim7 := { stood := { row := answersApartUptoRow, standIns := [], harness := (true, "3b3c541b3694999949a548a3a999de94790ef5b47417fac48bd6565e64d309cb"), looks := true }, kinds := [], alts := [], laidByText := true, laidKinds := [.data, .data, .data, .data, .pinned], laidTests := true, laidLooks := .later }
def AnswersApartUptoCardSaid : Prop := Claim7.holds Tryz.pinned (.plain (OpenSpec.upto answersApartSpec)) answersApartUptoCard

/-- THE SECOND FORM's CARD OF 'juristlaw27.AnswersNone'. -/
def answersNoneUptoCard : Claim7 := { stood := { row := answersNoneUptoRow, standIns := [], harness := (true, "3b3c541b3694999949a548a3a999de94790ef5b47417fac48bd6565e64d309cb"), looks := true }, kinds := [], alts := [], laidByText := true, laidKinds := [.data, .data, .data, .data, .pinned], laidTests := true, laidLooks := .later }
def AnswersNoneUptoCardSaid : Prop := Claim7.holds Tryz.pinned (.plain (OpenSpec.upto answersNoneSpec)) answersNoneUptoCard

/-- THE SECOND FORM's CARD OF 'juristlaw27.AnswersRead'. -/
def answersReadUptoCard : Claim7 := { stood := { row := answersReadUptoRow, standIns := [], harness := (true, "3b3c541b3694999949a548a3a999de94790ef5b47417fac48bd6565e64d309cb"), looks := true }, kinds := [], alts := [], laidByText := true, laidKinds := [.data, .data, .data, .data, .sentinel, .sentinel, .pinned], laidTests := true, laidLooks := .later }
def AnswersReadUptoCardSaid : Prop := Claim7.holds Tryz.pinned (.plain (OpenSpec.upto answersReadSpec)) answersReadUptoCard

/-- THE SECOND FORM's CARD OF 'juristlaw08.ShowDeep'. -/
def showDeepUptoCard : Claim7 := { stood := { row := showDeepUptoRow, standIns := [], harness := (true, "3b3c541b3694999949a548a3a999de94790ef5b47417fac48bd6565e64d309cb"), looks := true }, kinds := [], alts := [], laidByText := true, laidKinds := [.data, .data, .data, .data, .sentinel, .sentinel, .pinned], laidTests := true, laidLooks := .later }
def ShowDeepUptoCardSaid : Prop := Claim7.holds Tryz.pinned (.plain (OpenSpec.upto showDeepSpec)) showDeepUptoCard

/-- THE SECOND FORM's CARD OF 'juristlaw08.ShowNone'. -/
def showNoneUptoCard : Claim7 := { stood := { row := showNoneUptoRow, standIns := [], harness := (true, "3b3c541b3694999949a548a3a999de94790ef5b47417fac48bd6565e64d309cb"), looks := true }, kinds := [], alts := [], laidByText := true, laidKinds := [.data, .data, .data, .data, .sentinel, .sentinel, .pinned], laidTests := true, laidLooks := .later }
def ShowNoneUptoCardSaid : Prop := Claim7.holds Tryz.pinned (.plain (OpenSpec.upto showNoneSpec)) showNoneUptoCard

/-- THE SECOND FORM's CARD OF 'juristlaw08.ShowApart'. -/
def showApartUptoCard : Claim7 := { stood := { row := showApartUptoRow, standIns := [], harness := (true, "3b3c541b3694999949a548a3a999de94790ef5b47417fac48bd6565e64d309cb"), looks := true }, kinds := [], alts := [], laidByText := true, laidKinds := [.data, .data, .data, .data, .sentinel, .sentinel, .pinned], laidTests := true, laidLooks := .later }
def ShowApartUptoCardSaid : Prop := Claim7.holds Tryz.pinned (.plain (OpenSpec.upto showApartSpec)) showApartUptoCard

/-- THE SECOND FORM's CARD OF 'juristlaw08.ShowBack'. -/
def showBackUptoCard : Claim7 := { stood := { row := showBackUptoRow, standIns := [], harness := (true, "3b3c541b3694999949a548a3a999de94790ef5b47417fac48bd6565e64d309cb"), looks := true }, kinds := [], alts := [], laidByText := true, laidKinds := [.data, .data, .data, .data, .sentinel, .sentinel, .pinned], laidTests := true, laidLooks := .later }
def ShowBackUptoCardSaid : Prop := Claim7.holds Tryz.pinned (.plain (OpenSpec.upto showBackSpec)) showBackUptoCard

/-- THE SECOND FORM's CARD OF 'juristlaw08.ShowTexts'. -/
def showTextsUptoCard : Claim7 := { stood := { row := showTextsUptoRow, standIns := [], harness := (true, "3b3c541b3694999949a548a3a999de94790ef5b47417fac48bd6565e64d309cb"), looks := true }, kinds := [], alts := [], laidByText := true, laidKinds := [.data, .data, .data, .data, .sentinel, .sentinel, .pinned], laidTests := true, laidLooks := .later }
def ShowTextsUptoCardSaid : Prop := Claim7.holds Tryz.pinned (.plain (OpenSpec.upto showTextsSpec)) showTextsUptoCard
end Rows
end Go.Proofs.YtjdgfdpbiidldaaGreatDoor
