/-
  Layer 3 (lex): the reader's cells; Plain. No condition but the text's own size.
-/
import Derived.Test.YtjdgfdpbiidldaaGreatDoorLx2
namespace Go.Proofs.YtjdgfdpbiidldaaGreatDoor
open Go.RowKit

theorem build_rd (w : World) (v : Value) (h : (match v with | .slice _ _ _ => true | _ => false) = true) : (Instr.build 382 #[(0, .agg clsCells), (1, v)]).run Tryz.prog w = .ok (.agg (clsCells ++ #[v, .int .i64 0])) w := by
  cases v with
  | slice a n c => kernel_rfl
  | _ => cases h
theorem build_rd0 (w : World) : (Instr.build 382 #[(0, .agg clsCells)]).run Tryz.prog w = .ok (.agg (clsCells ++ #[.slice none 0 0, .int .i64 0])) w := by kernel_rfl
end Go.Proofs.YtjdgfdpbiidldaaGreatDoor
