/-
  AnswersRead: for every value of Bool or Int, its text is read by the document's tokens and trees and by the program as a term that is that value; any other sort is refused: the card. No condition beyond the given row's.
-/
import Derived.Test.YtjdgfdpbiidldaaGreatDoorRdM15
import Derived.Test.YtjdgfdpbiidldaaGreatDoorRdM16
namespace Go.Proofs.YtjdgfdpbiidldaaGreatDoor.answersRead
open Go.ChangeShapes Go.WideShapes Go.ChangeAt Go.RowKit
theorem looksAt : true = Tryz.pinned.checked.prog.looks [] := by kernel_rfl
theorem plain (f : FuncId) (fn : Func) (hf : Tryz.pinned.checked.prog.funcNamed "jurist/juristlaw27.AnswersRead" = some f) (hfn : Tryz.pinned.checked.prog.funcs[f]? = some fn) :
    true = Tryz.pinned.checked.prog.looks [] ∧ ∀ (j : Nat) t, fn.params[j]? = some t → Tryz.pinned.checked.prog.wantsStandIn t = false := by
  obtain rfl : f = 6 := Option.some.inj ((show Tryz.prog.funcNamed "jurist/juristlaw27.AnswersRead" = some 6 by kernel_rfl).symm.trans hf) |>.symm
  obtain rfl : fn = Tryz.f6 := (Option.some.inj (Tryz.func6.symm.trans hfn)).symm
  refine ⟨looksAt, fun j t ht => ?_⟩
  rw [Tryz.params6] at ht
  have hm : t ∈ #[51] := Array.mem_of_getElem? ht
  simp at hm
  subst hm
  exact (show Tryz.prog.wantsStandIn 51 = false by kernel_rfl)

/-- ████ THE CARD ████ -/
theorem card : Rows.AnswersReadCardSaid :=
  Claim7.holds_tied_plain_at .later [] _ _ _ _ said (fun _ h => by cases h) wfText (fun _ h => by cases h) answersRead_row_tie rfl ⟨rfl, rfl⟩ mainIs rfl plain goesNot
#print axioms card
end Go.Proofs.YtjdgfdpbiidldaaGreatDoor.answersRead
