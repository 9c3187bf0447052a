/-
  Layer 4 (tree): token, at a plain symbol. Conditions: the text's own size.
-/
import Derived.Test.YtjdgfdpbiidldaaGreatDoorLx8
import Derived.Lib.ConvBytes
namespace Go.Proofs.YtjdgfdpbiidldaaGreatDoor
open Go.RowKit

theorem belowDN {B : Nat} {a w : World} (h : Below B a w) (n : Nat) : Below B a (w.drewN n) := ⟨h.os, h.tape, h.output, h.size, h.block⟩

theorem bytesWorld_below (w : World) (e : TypeId) (s : ByteArray) : Below w.heap.size w (Lib.bytesWorld w e s) :=
  ⟨rfl, rfl, rfl, by rw [Lib.bytesWorld_size]; omega, fun k hk => Lib.bytesWorld_at_old w e s k hk⟩

/-- Tokens of a text, from a text: the bytes' row, then the tokens -/
theorem tokens_of_plain (s : ByteArray) (w : World) (hl : s.size ≤ 1048576) (hp : plainB s.toList = true) :
    Calls Tryz.prog 193 #[.slice (some ⟨w.heap.size, 0, none⟩) s.size (grownCap w s.size 0 5)] (Lib.bytesWorld w 5 s) fun e w' => ∃ v, e = .returned (.tuple #[v, .int .i64 s.size, .int .i64 0]) ∧ w'.ownsRow w.heap.size 34 3 v 1 [.int .u8 3, .string s, .int .i64 0] ∧ Below w.heap.size w w' := by
  have hsz := toList_length s
  have h := tokens_plain w.heap.size 0 (grownCap w s.size 0 5) s.toList (Lib.bytesWorld w 5 s) ?_ (by rw [Lib.bytesWorld_size]; omega) (by rw [hsz]; exact grownCap_ge _ _ _ _) (by omega) hp
  · rw [hsz] at h
    refine h.mono ?_
    rintro e w' ⟨v, rfl, h1, h2⟩
    have hb := bytesWorld_below w 5 s
    refine ⟨v, rfl, ?_, hb.trans (h2.mono hb.size)⟩
    have e1 : (⟨s.toList.toArray⟩ : ByteArray) = s := by rw [ByteArray.toList_eq]
    rw [e1] at h1
    exact ownsRow_mono h1 hb.size
  · intro j x hx
    have hj : j < s.size := by have := (List.getElem?_eq_some_iff.1 hx).1; omega
    rw [Nat.zero_add, Lib.bytesWorld_cell w 5 s j hj]
    have e2 : s.data.toList.getD j 0 = x := by
      rw [ByteArray.toList_eq] at hx
      rw [List.getD_eq_getElem?_getD, hx]; rfl
    rw [e2]

set_option maxHeartbeats 1000000 in
set_option maxRecDepth 100000 in
theorem token_plain (s : ByteArray) (at_ : Int) (w : World) (hl : s.size ≤ 1048576) (hp : plainB s.toList = true) :
    Calls Tryz.prog 128 #[.agg #[.int .u8 3, .string s, .int .i64 at_]] w fun e w' => e = .returned (.tuple #[.string s, .bool true]) ∧ Below w.heap.size w w' := by
  have hpl := fun w => plain_any s w (by omega)
  simp only [hp] at hpl
  have htk := fun w => tokens_of_plain s w hl hp
  have hcv := fun w => Lib.run_convert_string_bytes (P := Tryz.prog) w 9 72 5 s Tryz.underlying9 Tryz.underlying72 Tryz.underlying5
  have Hpl := Lib.hid hpl
  have Htk := Lib.hid htk
  clear hpl htk hl hp
  go_enter Tryz.func128, Tryz.ntmps128
  go_wp2_with (first | (go_at_call 191; refine (Hpl.out _).mono ?_; rintro e w1 ⟨rfl, hb1⟩))
  refine (Htk.out w1).mono ?_
  rintro e w2 ⟨v, rfl, hown, hb2⟩
  obtain ⟨g', cap', rfl⟩ := ownsRow_pos hown
  have c0 := hown.cellAt 0 (by simp)
  have c1 := hown.cellAt 1 (by simp)
  simp at c0 c1
  have hlt := hb1.size
  simp at hlt
  have d0 : w2.cell? ⟨w.heap.size, 0, none⟩ = some (.int .u8 3) := by
    rw [hb2.cell (p := ⟨w.heap.size, 0, none⟩) (by show w.heap.size < _; omega), hb1.cell (p := ⟨w.heap.size, 0, none⟩) (by simp), Lib.cell_of_heap (heap_alloc_new w _)]; rfl
  have d1 : w2.cell? ⟨w.heap.size, 1, none⟩ = some (.string s) := by
    rw [hb2.cell (p := ⟨w.heap.size, 1, none⟩) (by show w.heap.size < _; omega), hb1.cell (p := ⟨w.heap.size, 1, none⟩) (by simp), Lib.cell_of_heap (heap_alloc_new w _)]; rfl
  have hb3 : Below w.heap.size w w2 := (((Below.refl _ w).alloc (Nat.le_refl _) _).trans (hb1.mono (by simp))).trans (hb2.mono (by omega))
  clear hb1 hb2 hown hlt
  obtain ⟨T, hT⟩ : ∃ T, T = w.heap.size := ⟨_, rfl⟩
  rw [← hT] at d0 d1 hb3 ⊢
  have HT := Lib.hid hT
  clear hT hcv
  go_wp2
  go_quiet (fail)
  go_wp2
  go_ret2
  exact ⟨rfl, HT.out ▸ belowDN hb3 nq⟩
end Go.Proofs.YtjdgfdpbiidldaaGreatDoor
