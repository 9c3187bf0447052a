/-
  AnswersRead: the closed facts, each by itself.
-/
import Derived.Test.YtjdgfdpbiidldaaGreatDoorCards
import Derived.ProofKit
import Derived.Deep.DeepHandedRow
namespace Go.Proofs.YtjdgfdpbiidldaaGreatDoor.answersRead
open Go.ChangeShapes Go.WideShapes Go.ChangeAt Go.RowKit
theorem named : Tryz.prog.funcNamed Rows.answersReadRow.func = some 6 := by kernel_rfl
theorem inst : Tryz.f6.isInstance Tryz.prog Rows.answersReadRow.origin Rows.answersReadRow.targs := of_decide_eq_true (by kernel_rfl)
theorem wrap : Tryz.f6.isWrapper Tryz.prog Rows.answersReadRow.wrapper Rows.answersReadRow.mainSum := by unfold Func.isWrapper; first | (rw [if_pos (by decide +kernel)]; kernel_rfl) | (rw [if_neg (by decide +kernel)]; exact ⟨rfl, rfl⟩)
end Go.Proofs.YtjdgfdpbiidldaaGreatDoor.answersRead
