/-
  A world as it comes in: its functions, tables and rows lie there. No condition.
-/
import Derived.Test.YtjdgfdpbiidldaaGreatDoorWs1
import Derived.Deep.Slices
import Derived.Deep.Fields
import Derived.ChangeSame
import Derived.Lib.SmallJoins
namespace Go.Proofs.YtjdgfdpbiidldaaGreatDoor
open Go.ChangeShapes Go.WideShapes Go.Deep Go.RowKit

section
variable {H : Type} {enc : TypeId × Value → H} {w : World} {base : Nat} {spare : Nat → Bool} {held : Bool}

theorem cells157 : Tryz.prog.cellsOf 157 = 6 := by kernel_rfl
theorem cells149 : Tryz.prog.cellsOf 149 = 7 := by kernel_rfl
theorem cells24' : Tryz.prog.cellsOf 24 = 1 := by kernel_rfl
theorem cells147 : Tryz.prog.cellsOf 147 = 1 := by kernel_rfl
theorem struct157 : ∃ f0 f1, Tryz.prog.underlying 157 = some (.struct #[f0, f1]) ∧ f0.type = 24 ∧ f0.offset = 0 := ⟨_, _, Tryz.underlying157, rfl, rfl⟩
theorem struct149 : ∃ f0 f1 f2, Tryz.prog.underlying 149 = some (.struct #[f0, f1, f2]) ∧ f1.type = 147 ∧ f1.offset = 1 := ⟨_, _, _, Tryz.underlying149, rfl, rfl⟩

theorem lt_of_cell {a : Addr} {v : Value} (h : w.cell? a = some v) : a.block < w.heap.size := by
  apply Classical.byContradiction
  intro hc
  unfold World.cell? at h
  simp [Array.getElem?_eq_none (show w.heap.size ≤ a.block by omega)] at h

theorem slice_shape {t e : TypeId} {n : Nat} {v : Value} {y : DataW H × List MemPlace} (ht : Tryz.prog.underlying t = some (.slice e)) (h : DataW.trod enc Tryz.prog w base spare held n t [v] = some y) : ∃ a l c, v = .slice a l c := by
  rcases open_slice ht h with ⟨h0, _⟩ | ⟨a, len, cap, m, n', D, Pl, hcs, _⟩
  · simp at h0; exact ⟨_, _, _, h0⟩
  · simp at hcs; exact ⟨_, _, _, hcs⟩

theorem rows_open {n : Nat} {v : Value} {y : DataW H × List MemPlace} (h : DataW.trod enc Tryz.prog w base spare held n 147 [v] = some y) : RowsAtW w v := by
  rcases open_slice Tryz.underlying147 h with ⟨h0, _⟩ | ⟨a, len, cap, m, n', D, Pl, hcs, _, hl, hm, hmm, _, hi⟩
  · simp at h0; exact ⟨_, _, _, h0, by omega, fun h => absurd rfl h⟩
  · simp at hcs
    have hlen : len ≤ 9223372036854775807 := Nat.le_trans hl (by unfold maxLen at hm; omega)
    have hlm : len ≤ m := by rw [hmm]; split <;> omega
    have hcell : ∀ j, j < len → ∃ xa xn xc, w.cell? ((a.add (j * 6)).add 0) = some (.slice xa xn xc) := by
      intro j hj
      obtain ⟨cs', hc, ht⟩ := hi j (by omega)
      rw [cells157] at hc
      obtain ⟨f0, f1, hu, hft, hfo⟩ := struct157
      obtain ⟨ys, n2, hn2, hy, hlen2, hyl, hf⟩ := DataW.trod_struct hu ht
      have h0 := hf 0 f0 rfl
      rw [hft, hfo, cells24'] at h0
      obtain ⟨_, hcl, hat⟩ := World.cells?_some hc
      have hc0 := hat 0 (by omega)
      obtain ⟨c0, rest, rfl⟩ : ∃ c0 rest, cs' = c0 :: rest := by
        cases cs' with
        | nil => simp at hcl
        | cons x l => exact ⟨_, _, rfl⟩
      simp only [List.drop_zero, List.take_succ_cons, List.take_zero] at h0
      simp only [List.getElem?_cons_zero] at hc0
      have hys : ys[0]? = some (ys[0]'(by rw [hyl]; exact Nat.zero_lt_succ _)) := List.getElem?_eq_getElem _
      rw [hys] at h0
      obtain ⟨xa, xn, xc, rfl⟩ := slice_shape Tryz.underlying24 h0
      exact ⟨xa, xn, xc, hc0⟩
    refine ⟨_, _, _, hcs, hlen, fun hne => ?_⟩
    obtain ⟨xa, xn, xc, hc0⟩ := hcell 0 (by omega)
    have hsp := World.cell?_spot hc0
    have hbl := lt_of_cell hc0
    obtain ⟨b, o, sp⟩ := a
    simp [Addr.add] at hsp hbl
    subst hsp
    refine ⟨b, o, rfl, hbl, fun j hj => ?_⟩
    obtain ⟨xa, xn, xc, h⟩ := hcell j hj
    refine ⟨xa, xn, xc, ?_⟩
    rw [← h]
    congr 1
    unfold Addr.add
    split <;> simp_all

set_option maxRecDepth 100000 in
theorem funs_open {n : Nat} {v : Value} {y : DataW H × List MemPlace} (h : DataW.trod enc Tryz.prog w base spare held n 27 [v] = some y) : FunsAtW w v := by
  rcases open_slice Tryz.underlying27 h with ⟨h0, _⟩ | ⟨a, len, cap, m, n', D, Pl, hcs, _, hl, hm, hmm, _, hi⟩
  · simp at h0; exact ⟨_, _, _, h0, by omega, fun h => absurd rfl h⟩
  · simp at hcs
    have hlen : len ≤ 9223372036854775807 := Nat.le_trans hl (by unfold maxLen at hm; omega)
    have hlm : len ≤ m := by rw [hmm]; split <;> omega
    have hcell : ∀ j, j < len → ∃ u, w.cell? ((a.add (j * 7)).add 1) = some u ∧ RowsAtW w u := by
      intro j hj
      obtain ⟨cs', hc, ht⟩ := hi j (by omega)
      rw [cells149] at hc
      obtain ⟨f0, f1, f2, hu, hft, hfo⟩ := struct149
      obtain ⟨ys, n2, hn2, hy, hlen2, hyl, hf⟩ := DataW.trod_struct hu ht
      have h0 := hf 1 f1 rfl
      rw [hft, hfo, cells147] at h0
      obtain ⟨_, hcl, hat⟩ := World.cells?_some hc
      have hc0 := hat 1 (by omega)
      obtain ⟨c0, c1, rest, rfl⟩ : ∃ c0 c1 rest, cs' = c0 :: c1 :: rest := by
        cases cs' with
        | nil => simp at hcl
        | cons x l => cases l with
          | nil => simp at hcl
          | cons z l => exact ⟨_, _, _, rfl⟩
      simp only [List.drop_succ_cons, List.drop_zero, List.take_succ_cons, List.take_zero] at h0
      simp only [List.getElem?_cons_succ, List.getElem?_cons_zero] at hc0
      have hys : ys[1]? = some (ys[1]'(by rw [hyl]; exact Nat.succ_lt_succ (Nat.zero_lt_succ _))) := List.getElem?_eq_getElem _
      rw [hys] at h0
      exact ⟨c1, hc0, rows_open h0⟩
    refine ⟨_, _, _, hcs, hlen, fun hne => ?_⟩
    obtain ⟨u, hc0, _⟩ := hcell 0 (by omega)
    have hbl := lt_of_cell hc0
    have hsp : a.spot = none := by
      obtain ⟨cs', hc, _⟩ := hi 0 (by omega)
      rw [cells149] at hc
      obtain ⟨_, hcl, hat⟩ := World.cells?_some hc
      have h1 := hat 0 (by omega)
      have hlt : 0 < cs'.length := by omega
      rw [List.getElem?_eq_getElem hlt] at h1
      have := World.cell?_spot h1
      simpa [Addr.add] using this
    obtain ⟨b, o, sp⟩ := a
    simp [Addr.add] at hsp hbl
    subst hsp
    refine ⟨b, o, rfl, hbl, fun j hj => ?_⟩
    obtain ⟨u, h, hr⟩ := hcell j hj
    refine ⟨u, ?_, hr⟩
    rw [← h]
    congr 1
    unfold Addr.add
    by_cases hj0 : j * 7 = 0
    · rw [if_pos hj0, if_neg (by omega)]; simp [hj0]
    · rw [if_neg hj0, if_neg (by omega)]
end
end Go.Proofs.YtjdgfdpbiidldaaGreatDoor
