/- AnswersNone: the closed facts, each by itself. -/
import Derived.Test.YtjdgfdpbiidldaaGreatDoorCards
import Derived.ProofKit
import Derived.Deep.DeepHandedRow
namespace Go.Proofs.YtjdgfdpbiidldaaGreatDoor.answersNone
open Go.ChangeShapes Go.WideShapes Go.ChangeAt Go.RowKit
theorem named : Tryz.prog.funcNamed Rows.answersNoneRow.func = some 5 := by kernel_rfl
theorem inst : Tryz.f5.isInstance Tryz.prog Rows.answersNoneRow.origin Rows.answersNoneRow.targs := of_decide_eq_true (by kernel_rfl)
theorem wrap : Tryz.f5.isWrapper Tryz.prog Rows.answersNoneRow.wrapper Rows.answersNoneRow.mainSum := by unfold Func.isWrapper; first | (rw [if_pos (by decide +kernel)]; kernel_rfl) | (rw [if_neg (by decide +kernel)]; exact ⟨rfl, rfl⟩)
end Go.Proofs.YtjdgfdpbiidldaaGreatDoor.answersNone
