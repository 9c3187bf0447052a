/-
  AnswersRead: the card's closed facts, each by itself.
-/
import Derived.Test.YtjdgfdpbiidldaaGreatDoorCards
import Derived.ProofKit
import Derived.SevenTiedAt
namespace Go.Proofs.YtjdgfdpbiidldaaGreatDoor.answersRead
open Go
theorem wfText : Rows.answersReadRow.wfByText (OpenSpec.ofChange Rows.answersReadSpec) = true := by kernel_rfl
theorem mainIs : Tryz.pinned.checked.prog.mainIs = some (true, "3b3c541b3694999949a548a3a999de94790ef5b47417fac48bd6565e64d309cb".toList) := by kernel_rfl
theorem goesNot : false = Rows.answersReadRow.goesBy Tryz.pinned.checked.prog := by kernel_rfl
end Go.Proofs.YtjdgfdpbiidldaaGreatDoor.answersRead
