/-
  Layer 27's statements: known. No condition.
-/
import Derived.Test.YtjdgfdpbiidldaaGreatDoorKn1
import Derived.Test.YtjdgfdpbiidldaaGreatDoorAn1
import Derived.Test.YtjdgfdpbiidldaaGreatDoorEr3
namespace Go.Proofs.YtjdgfdpbiidldaaGreatDoor
open Go.RowKit

theorem elem_text : (⟨#[40, 97, 115, 32, 64]⟩ ++ ⟨(Lib.decDigits 2).toArray⟩ ++ ⟨#[32]⟩ ++ uName ++ ⟨#[41]⟩ : ByteArray) = ⟨#[40, 97, 115, 32, 64, 50, 32, 85, 41]⟩ := by decide +kernel
theorem error_text : (⟨#[40, 101, 114, 114, 111, 114, 32, 34, 97, 116, 32]⟩ ++ ⟨(Lib.decDigits 7).toArray⟩ ++ ⟨#[58, 32]⟩ ++ wrongSort ++ ⟨#[34, 41]⟩ : ByteArray) = ⟨#[40, 101, 114, 114, 111, 114, 32, 34, 97, 116, 32, 55, 58, 32, 119, 114, 111, 110, 103, 32, 115, 111, 114, 116, 34, 41]⟩ := by decide +kernel
theorem tabU_name : tabU.sortName 2 = (uName, 0) := by decide +kernel
theorem uPlain : plainB uName.toList = true := by decide +kernel

set_option maxHeartbeats 1000000 in
set_option maxRecDepth 100000 in
theorem answer_sat (w : World) : Calls Tryz.prog 53 #[.int .u8 1] w fun e w' => e = .returned (.string ⟨#[115, 97, 116]⟩) ∧ w = w' := by
  go_enter Tryz.func53, Tryz.ntmps53
  go_wp2
  go_ret
  exact ⟨rfl, rfl⟩

set_option maxHeartbeats 1000000 in
set_option maxRecDepth 100000 in
theorem known_true (w : World) : Calls Tryz.prog 13 #[] w fun e w' => e = .returned (.bool true) ∧ Below w.heap.size w w' := by
  have hv : ∀ B b w, IsTab w B b tabU → Calls Tryz.prog 18 #[.pointer (some ⟨b, 0, none⟩), .agg #[.int .i64 2, .bool false, .int .i64 0, .int .i64 0, .int .i64 2]] w fun e w' => e = .returned (.tuple #[.string ⟨#[40, 97, 115, 32, 64, 50, 32, 85, 41]⟩, .int .i64 0]) ∧ Below w.heap.size w w' := by
    intro B b w h
    have h1 := value_elem B b tabU 2 uName false 0 0 2 w h (by decide) (by decide) (by decide) tabU_name (by decide) uPlain (by decide)
    rw [elem_text] at h1
    exact h1
  have he := fun w => error_7_60 w
  simp only [error_text] at he
  have Hv := Lib.hid hv
  have He := Lib.hid he
  clear hv he
  go_enter Tryz.func13, Tryz.ntmps13
  go_wp2_with fail
  obtain ⟨W, hW⟩ : ∃ W, W = w.alloc (Obj.cells #[Value.string { data := #[85] }, Value.bool true, Value.string { data := #[] }, Value.slice none 0 0, Value.int IntKind.i64 0, Value.bool false] 123) := ⟨_, rfl⟩
  have hb0 : Below w.heap.size w W := by rw [hW]; exact (Below.refl _ w).alloc (Nat.le_refl _) _
  have hT := tables_U w.heap.size 1 W (by rw [hW]; simp) (by rw [hW, Lib.cell_of_heap (heap_alloc_new w _)]; rfl) (by rw [hW, Lib.cell_of_heap (heap_alloc_new w _)]; rfl)
  rw [← hW]
  clear hW
  refine hT.mono ?_
  rintro e w1 ⟨b, r, rfl, hT1, hb1⟩
  have hb2 := hb0.trans (hb1.mono hb0.size)
  clear hT hb0 hb1
  go_wp2_with fail
  refine (Hv.out _ b w1 hT1).mono ?_
  rintro e w2 ⟨rfl, hb3⟩
  have hb4 := hb2.trans (hb3.mono hb2.size)
  clear hb2 hb3 hT1
  go_wp2_with (first | (go_at_call 52; refine (He.out _).mono ?_; rintro e w3 ⟨rfl, hb5⟩) | (go_at_call 53; refine (answer_sat _).mono ?_; rintro e w' ⟨rfl, rfl⟩))
  go_ret
  exact ⟨rfl, hb4.trans (hb5.mono hb4.size)⟩
end Go.Proofs.YtjdgfdpbiidldaaGreatDoor
