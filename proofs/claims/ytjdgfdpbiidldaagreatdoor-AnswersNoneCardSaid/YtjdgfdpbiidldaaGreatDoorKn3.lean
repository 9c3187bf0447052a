/-
  Layer 27's statements: AnswersNone, walked. Condition: the world's functions lie there.
-/
import Derived.Test.YtjdgfdpbiidldaaGreatDoorKn2
import Derived.Test.YtjdgfdpbiidldaaGreatDoorWs1
namespace Go.Proofs.YtjdgfdpbiidldaaGreatDoor
open Go.RowKit

set_option maxHeartbeats 2000000 in
set_option maxRecDepth 100000 in
theorem tame_nil (a1 : Option Addr) (n1 c1 : Nat) (v2 : Value) (w : World) (h : FunsAtW w v2) :
    Calls Tryz.prog 12 #[.slice none 0 0, .agg #[.slice a1 n1 c1, v2]] w fun e w' => (∃ b, e = .returned (.bool b)) ∧ Below w.heap.size w w' := by
  have h0 := h.below ((Below.refl _ w).alloc (Nat.le_refl _) (.cells #[.slice a1 n1 c1, v2] 29))
  have hsz := size_any a1 n1 c1 v2 _ h0
  have hb0 := heap_alloc_new w (.cells #[.slice a1 n1 c1, v2] 29)
  have hB0 : Below w.heap.size w (w.alloc (.cells #[.slice a1 n1 c1, v2] 29)) := (Below.refl _ w).alloc (Nat.le_refl _) _
  obtain ⟨W, hW⟩ : ∃ W, W = w.alloc (.cells #[.slice a1 n1 c1, v2] 29) := ⟨_, rfl⟩
  obtain ⟨T, hT⟩ : ∃ T, T = w.heap.size := ⟨_, rfl⟩
  rw [← hW] at hsz hb0 hB0
  obtain ⟨ra, rn, rc, rfl, _, _⟩ := h
  have cT0 : W.cell? ⟨w.heap.size, 0, none⟩ = some (.slice a1 n1 c1) := by rw [Lib.cell_of_heap hb0]; rfl
  have cT : W.cell? ⟨w.heap.size, 1, none⟩ = some (.slice ra rn rc) := by rw [Lib.cell_of_heap hb0]; rfl
  have Hsz := Lib.hid hsz
  have HB0 := Lib.hid hB0
  clear h0 hsz hb0 hB0
  go_enter Tryz.func12, Tryz.ntmps12
  go_wp2
  rw [← hW, ← hT]
  rw [← hT] at cT cT0
  have HT := Lib.hid hT
  clear hW hT
  go_loopw [5, 6] (fun v5 v6 wr => v5 = .int .i64 0 ∧ v6 = .int .i64 0 ∧ wr = W) (fun _ _ _ => 0)
  case atStart => exact ⟨rfl, rfl, rfl⟩
  case round =>
    obtain ⟨rfl, rfl, rfl⟩ := hrel
    go_wp2_with (go_at_call 51; refine Hsz.out.mono ?_; rintro e w2 ⟨⟨n, rfl⟩, hb2⟩)
    all_goals go_ret
    all_goals first | exact ⟨.inl rfl, HB0.out⟩ | exact ⟨⟨_, rfl⟩, HB0.out.trans (hb2.mono HB0.out.size)⟩

set_option maxHeartbeats 1000000 in
set_option maxRecDepth 100000 in
theorem copy_nil (w : World) : Calls Tryz.prog 57 #[.pointer none] w fun e w' => e = .returned (.pointer none) ∧ w = w' := by
  go_enter Tryz.func57, Tryz.ntmps57
  go_wp2_with (first | (go_at_call 101; refine (none_nil _).mono ?_; rintro e w' ⟨rfl, rfl⟩))
  go_ret
  exact ⟨rfl, rfl⟩

set_option maxHeartbeats 1000000 in
set_option maxRecDepth 100000 in
theorem values_nil (w : World) : Calls Tryz.prog 17 #[.pointer none, .slice none 0 0, .slice none 0 0] w fun e w' => e = .returned (.tuple #[.string ⟨#[]⟩, .int .i64 1]) ∧ w = w' := by
  go_enter Tryz.func17, Tryz.ntmps17
  go_wp2_with (first | (go_at_call 57; refine (copy_nil _).mono ?_; rintro e w' ⟨rfl, rfl⟩))
  go_ret2
  exact ⟨rfl, rfl⟩

set_option maxHeartbeats 1000000 in
set_option maxRecDepth 100000 in
theorem model_nil (a1 a2 : Option Addr) (n1 c1 n2 c2 : Nat) (w : World) : Calls Tryz.prog 21 #[.pointer none, .agg #[.slice a1 n1 c1, .slice a2 n2 c2]] w fun e w' => e = .returned (.tuple #[.string ⟨#[]⟩, .int .i64 1]) ∧ Below w.heap.size w w' := by
  go_enter Tryz.func21, Tryz.ntmps21
  go_wp2_with (first | (go_at_call 57; refine (copy_nil _).mono ?_; rintro e w' ⟨rfl, rfl⟩))
  go_ret2
  exact ⟨rfl, (Below.refl _ w).alloc (Nat.le_refl _) _⟩

set_option maxHeartbeats 2000000 in
set_option maxRecDepth 100000 in
theorem answersNone_any (s : Int) (bo : Bool) (hi lo E : Int) (a1 : Option Addr) (n1 c1 : Nat) (v2 : Value) (w : World) (h : FunsAtW w v2) :
    Calls Tryz.prog 5 #[.agg #[.int .i64 s, .bool bo, .int .i64 hi, .int .i64 lo, .int .i64 E], .agg #[.slice a1 n1 c1, v2]] w fun e w' => e = .returned (.bool true) ∧ Below w.heap.size w w' := by
  obtain ⟨o1, ho1⟩ : ∃ o1 : Obj, o1 = .cells #[.int .i64 s, .bool bo, .int .i64 hi, .int .i64 lo, .int .i64 E] 51 := ⟨_, rfl⟩
  obtain ⟨o2, ho2⟩ : ∃ o2 : Obj, o2 = .cells #[.slice a1 n1 c1, v2] 29 := ⟨_, rfl⟩
  have hB1 : Below w.heap.size w (w.alloc o1) := (Below.refl _ w).alloc (Nat.le_refl _) _
  have hB2 : Below w.heap.size w ((w.alloc o1).alloc o2) := hB1.alloc (by simp) _
  have h2 := h.below hB2
  have hb1 : ((w.alloc o1).alloc o2).heap[w.heap.size]? = some o1 := by rw [Lib.alloc_old _ _ _ (by simp)]; exact heap_alloc_new w o1
  have hb2 : ((w.alloc o1).alloc o2).heap[w.heap.size + 1]? = some o2 := by have := heap_alloc_new (w.alloc o1) o2; simpa using this
  have htame := tame_nil a1 n1 c1 v2 _ h2
  have hval := fun w => value_nil s [.bool bo, .int .i64 hi, .int .i64 lo, .int .i64 E] w _ rfl rfl
  obtain ⟨a2, n2, c2, rfl, _⟩ := h
  have hmod := fun w => model_nil a1 a2 n1 c1 n2 c2 w
  obtain ⟨W, hW⟩ : ∃ W, W = (w.alloc o1).alloc o2 := ⟨_, rfl⟩
  rw [← hW] at hB2 hb1 hb2 htame
  have Htame := Lib.hid htame
  have Hval := Lib.hid hval
  have Hmod := Lib.hid hmod
  have HB2 := Lib.hid hB2
  obtain ⟨T, hT⟩ : ∃ T, T = w.heap.size := ⟨_, rfl⟩
  have Hb1 := Lib.hid hb1
  have Hb2 := Lib.hid hb2
  have keep : ∀ w', Below W.heap.size W w' → Below T w w' ∧ w'.heap[T]? = some (.cells #[.int .i64 s, .bool bo, .int .i64 hi, .int .i64 lo, .int .i64 E] 51 (0, 0)) ∧ w'.heap[T + 1]? = some (.cells #[.slice a1 n1 c1, .slice a2 n2 c2] 29 (0, 0)) := by
    intro w' hb
    rw [hT]
    refine ⟨HB2.out.trans (hb.mono HB2.out.size), ?_, ?_⟩
    · rw [hb.block _ (Array.getElem?_eq_some_iff.1 Hb1.out).1, Hb1.out, ho1]
    · rw [hb.block _ (Array.getElem?_eq_some_iff.1 Hb2.out).1, Hb2.out, ho2]
  have Keep := Lib.hid keep
  clear htame hval hmod hB1 hB2 hb1 hb2 h2 keep
  go_enter Tryz.func5, Tryz.ntmps5
  go_wp2_with fail
  rw [← ho1, ← ho2, ← hW, ← hT]
  have HT := Lib.hid hT
  clear hW hT ho1 ho2
  refine Htame.out.mono ?_
  rintro e w1 ⟨⟨b, rfl⟩, hb1⟩
  cases b with
  | false =>
    go_wp2_with (go_at_call 13; refine (known_true _).mono ?_; rintro e w2 ⟨rfl, hb2⟩)
    go_ret
    have h3 := (Keep.out _ (hb1.trans (hb2.mono hb1.size))).1
    rw [HT.out] at h3
    exact ⟨rfl, h3⟩
  | true =>
    obtain ⟨_, k1, k2⟩ := Keep.out _ hb1
    have e0 : w1.cell? ⟨T, 0, none⟩ = some (.int .i64 s) := by rw [Lib.cell_of_heap k1]; rfl
    have e1 : w1.cell? ⟨T, 1, none⟩ = some (.bool bo) := by rw [Lib.cell_of_heap k1]; rfl
    have e2 : w1.cell? ⟨T, 2, none⟩ = some (.int .i64 hi) := by rw [Lib.cell_of_heap k1]; rfl
    have e3 : w1.cell? ⟨T, 3, none⟩ = some (.int .i64 lo) := by rw [Lib.cell_of_heap k1]; rfl
    have e4 : w1.cell? ⟨T, 4, none⟩ = some (.int .i64 E) := by rw [Lib.cell_of_heap k1]; rfl
    clear k1 k2
    go_wp2_with fail
    refine (Hval.out _).mono ?_
    rintro e w2 ⟨rfl, hb2⟩
    have hb3 := hb1.trans (hb2.mono hb1.size)
    obtain ⟨_, k1, k2⟩ := Keep.out _ hb3
    have d0 : w2.cell? ⟨T + 1, 0, none⟩ = some (.slice a1 n1 c1) := by rw [Lib.cell_of_heap k2]; rfl
    have d1 : w2.cell? ⟨T + 1, 1, none⟩ = some (.slice a2 n2 c2) := by rw [Lib.cell_of_heap k2]; rfl
    clear k1 k2 e0 e1 e2 e3 e4 hb1 hb2
    go_wp2_with (first | (go_at_call 17; refine (values_nil _).mono ?_; rintro e w' ⟨rfl, rfl⟩) | (go_at_call 21; refine (Hmod.out _).mono ?_; rintro e w3 ⟨rfl, hb4⟩) | (go_at_call 13; refine (known_true _).mono ?_; rintro e w4 ⟨rfl, hb5⟩))
    go_ret
    have hb6 := hb3.trans (hb4.mono hb3.size)
    have h3 := (Keep.out _ (hb6.trans (hb5.mono hb6.size))).1
    rw [HT.out] at h3
    exact ⟨rfl, h3⟩
end Go.Proofs.YtjdgfdpbiidldaaGreatDoor
