/-
  AnswersNone: for every value and every world, the document's three texts are refused without a table of names: the card. No condition beyond the given row's.
-/
import Derived.Test.YtjdgfdpbiidldaaGreatDoorAnS
import Derived.Test.YtjdgfdpbiidldaaGreatDoorAnE
namespace Go.Proofs.YtjdgfdpbiidldaaGreatDoor.answersNone
open Go.ChangeShapes Go.WideShapes Go.ChangeAt Go.RowKit
theorem looksAt : true = Tryz.pinned.checked.prog.looks [] := by kernel_rfl
theorem plain (f : FuncId) (fn : Func) (hf : Tryz.pinned.checked.prog.funcNamed "jurist/juristlaw27.AnswersNone" = some f) (hfn : Tryz.pinned.checked.prog.funcs[f]? = some fn) :
    true = Tryz.pinned.checked.prog.looks [] ∧ ∀ (j : Nat) t, fn.params[j]? = some t → Tryz.pinned.checked.prog.wantsStandIn t = false := by
  obtain rfl : f = 5 := Option.some.inj ((show Tryz.prog.funcNamed "jurist/juristlaw27.AnswersNone" = some 5 by kernel_rfl).symm.trans hf) |>.symm
  obtain rfl : fn = Tryz.f5 := (Option.some.inj (Tryz.func5.symm.trans hfn)).symm
  refine ⟨looksAt, fun j t ht => ?_⟩
  rw [Tryz.params5] at ht
  have hm : t ∈ #[51, 29] := Array.mem_of_getElem? ht
  simp at hm
  rcases hm with rfl | rfl
  · exact (show Tryz.prog.wantsStandIn 51 = false by kernel_rfl)
  · exact (show Tryz.prog.wantsStandIn 29 = false by kernel_rfl)

/-- ████ THE CARD ████ -/
theorem card : Rows.AnswersNoneCardSaid :=
  Claim7.holds_tied_plain_at .later [] _ _ _ _ said (fun _ h => by cases h) wfText (fun _ h => by cases h) answersNone_row_tie rfl ⟨rfl, rfl⟩ mainIs rfl plain goesNot
#print axioms card
end Go.Proofs.YtjdgfdpbiidldaaGreatDoor.answersNone
