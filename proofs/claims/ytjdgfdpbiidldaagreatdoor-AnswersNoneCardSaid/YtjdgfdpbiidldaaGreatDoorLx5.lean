/-
  Layer 3 (lex): the reader as it lies; word. Conditions: the text's own size.
-/
import Derived.Test.YtjdgfdpbiidldaaGreatDoorLx4
import Derived.Laws.IdiomStrings
namespace Go.Proofs.YtjdgfdpbiidldaaGreatDoor
open Go.RowKit

/-- a reader of l, at a place, whose bytes lie in block g from o -/
structure IsRd (w : World) (R g o cap : Nat) (l : List UInt8) (at_ : Int) : Prop where
  heap : w.heap[R]? = some (.cells (rdCells (.slice (some ⟨g, o, none⟩) l.length cap) at_) 382 (0, 0))
  bytes : ∀ j x, l[j]? = some x → w.cell? ⟨g, o + j, none⟩ = some (.int .u8 x.toNat)
  other : g ≠ R
  few : l.length ≤ cap

theorem IsRd.cls {w : World} {R g o cap : Nat} {l : List UInt8} {n : Int} (h : IsRd w R g o cap l n) (j : Nat) (hj : j < 256) : w.cell? ⟨R, j, none⟩ = some (.int .u8 (cls j)) := by
  rw [Lib.cell_of_heap h.heap]; exact rdCells_cls _ _ j hj
theorem IsRd.c256 {w : World} {R g o cap : Nat} {l : List UInt8} {n : Int} (h : IsRd w R g o cap l n) : w.cell? ⟨R, 256, none⟩ = some (.slice (some ⟨g, o, none⟩) l.length cap) := by
  rw [Lib.cell_of_heap h.heap]; exact rdCells_b _ _
theorem IsRd.c257 {w : World} {R g o cap : Nat} {l : List UInt8} {n : Int} (h : IsRd w R g o cap l n) : w.cell? ⟨R, 257, none⟩ = some (.int .i64 n) := by
  rw [Lib.cell_of_heap h.heap]; exact rdCells_at _ _
theorem IsRd.fz {w : World} {R g o cap : Nat} {l : List UInt8} {n : Int} (h : IsRd w R g o cap l n) (c : Nat) : w.frozen? ⟨R, c, none⟩ = false := Lib.frozen_of_heap h.heap c
theorem rdCells_set (v : Value) (n m : Int) : (rdCells v n).setIfInBounds 257 (.int .i64 m) = rdCells v m := by
  apply Array.ext_getElem?
  intro j
  rw [set_same_at (by rw [rdCells_size]; omega)]
  split
  · rename_i e; subst e; rw [rdCells_at]
  · rename_i e
    by_cases h : j < 256
    · rw [rdCells_cls _ _ _ h, rdCells_cls _ _ _ h]
    · by_cases h2 : j = 256
      · subst h2; rw [rdCells_b, rdCells_b]
      · rw [Array.getElem?_eq_none (by rw [rdCells_size]; omega), Array.getElem?_eq_none (by rw [rdCells_size]; omega)]
theorem IsRd.set {w : World} {R g o cap : Nat} {l : List UInt8} {n : Int} (h : IsRd w R g o cap l n) (m : Int) : IsRd (w.setCell ⟨R, 257, none⟩ (.int .i64 m)) R g o cap l m := by
  refine ⟨?_, ?_, h.other, h.few⟩
  · rw [heap_set_at h.heap, rdCells_set]
  · intro j x hx
    have := h.bytes j x hx
    rw [← this]
    unfold World.cell?
    simp only []
    rw [Below.heap_setCell _ _ _ _ h.other]
theorem IsRd.drewN {w : World} {R g o cap : Nat} {l : List UInt8} {n : Int} (h : IsRd w R g o cap l n) (m : Nat) : IsRd (w.drewN m) R g o cap l n := ⟨h.heap, h.bytes, h.other, h.few⟩

theorem takeWhile_stop {α : Type} (p : α → Bool) : ∀ (m : List α) (k : Nat), k ≤ m.length → (∀ j x, j < k → m[j]? = some x → p x = true) → (∀ x, m[k]? = some x → p x = false) → m.takeWhile p = m.take k
  | [], k, h, _, _ => by simp
  | x :: m, 0, _, _, h => by
    have := h x (by simp)
    simp [this]
  | x :: m, k + 1, h, h1, h2 => by
    have := h1 0 x (by omega) (by simp)
    simp only [List.takeWhile_cons, this, if_true, List.take_succ_cons]
    rw [takeWhile_stop p m k (by simpa using h) (fun j y hj hy => h1 (j + 1) y (by omega) (by simpa using hy)) (fun y hy => h2 y (by simpa using hy))]

/-- the letters from a place on -/
def wordAt (l : List UInt8) (at_ : Nat) : List UInt8 := (l.drop at_).takeWhile (isC 1)

theorem wordAt_stop {l : List UInt8} {n k : Nat} (hnk : n ≤ k) (hk : k ≤ l.length) (h1 : ∀ j x, n ≤ j → j < k → l[j]? = some x → isC 1 x = true) (h2 : ∀ x, l[k]? = some x → isC 1 x = false) : wordAt l n = (l.drop n).take (k - n) ∧ (wordAt l n).length = k - n := by
  have h : wordAt l n = (l.drop n).take (k - n) := by
    refine takeWhile_stop _ _ _ (by simp; omega) (fun j x hj hx => ?_) (fun x hx => ?_)
    · rw [List.getElem?_drop] at hx
      exact h1 (n + j) x (by omega) (by omega) hx
    · rw [List.getElem?_drop] at hx
      have e : n + (k - n) = k := by omega
      rw [e] at hx
      exact h2 x hx
  refine ⟨h, ?_⟩
  rw [h]; simp; omega

theorem IsRd.conv {w : World} {R g o cap n k : Nat} {l : List UInt8} {m : Int} (h : IsRd w R g o cap l m) (hnk : n ≤ k) (hk : k ≤ l.length) (c : Nat) (nq : Nat) : (convert 72 9 (.slice (some ⟨g, o + n, none⟩) (k - n) c)).run Tryz.prog (w.drewN nq) = .ok (.string ⟨((l.drop n).take (k - n)).toArray⟩) (w.drewN nq) := by
  have hlen : ((l.drop n).take (k - n)).length = k - n := by simp; omega
  have := run_convert_bytes_back (P := Tryz.prog) (w.drewN nq) 72 9 5 ⟨g, o + n, none⟩ c ((l.drop n).take (k - n)) Tryz.underlying72 Tryz.underlying5 Tryz.underlying9 (by
    intro j hj
    have hj2 : j < k - n := by omega
    have h1 : l[n + j]? = some ((l.drop n).take (k - n))[j] := by
      rw [← List.getElem?_eq_getElem hj, List.getElem?_take, if_pos hj2, List.getElem?_drop]
    have h2 := h.bytes _ _ h1
    show w.cell? _ = _
    rw [← h2]
    unfold Addr.add
    split <;> simp_all [Nat.add_assoc])
  rw [hlen] at this
  exact this

/-- a cut of the bytes, as the walk writes it, as a text -/
theorem IsRd.conv2 {w : World} {R g o cap n k : Nat} {l : List UInt8} {m : Int} (h : IsRd w R g o cap l m) (hnk : n ≤ k) (hk : k ≤ l.length) (nq : Nat) : (convert 72 9 (.slice (if cap = n then some ⟨g, o, none⟩ else some ⟨g, o + n, none⟩) (k - n) (cap - n))).run Tryz.prog (w.drewN nq) = .ok (.string ⟨((l.drop n).take (k - n)).toArray⟩) (w.drewN nq) := by
  split
  · rename_i e
    have := h.few
    have e2 : k = n := by omega
    subst e2
    have h3 := run_convert_bytes_back (P := Tryz.prog) (w.drewN nq) 72 9 5 ⟨g, o, none⟩ (cap - k) [] Tryz.underlying72 Tryz.underlying5 Tryz.underlying9 (by intro j hj; simp at hj)
    simpa using h3
  · exact h.conv hnk hk _ nq

set_option maxHeartbeats 1000000 in
set_option maxRecDepth 100000 in
theorem word_any (R g o cap : Nat) (l : List UInt8) (n : Nat) (w : World) (h : IsRd w R g o cap l n) (hn : n ≤ l.length) (hl : l.length ≤ 9223372036854775806) :
    Calls Tryz.prog 334 #[.pointer (some ⟨R, 0, none⟩)] w fun e w' => e = .returned (.string ⟨(wordAt l n).toArray⟩) ∧ IsRd w' R g o cap l (n + (wordAt l n).length : Nat) ∧ Upd (fun k => k = R) w w' := by
  have hle : l.length ≤ 9223372036854775806 := hl
  have H := Lib.hid h
  have Hle := Lib.hid hle
  have c257 := h.c257
  clear h hl hle
  go_enter Tryz.func334, Tryz.ntmps334
  go_wp2
  clear c257
  go_loopw [] (fun wr => ∃ k : Nat, n ≤ k ∧ k ≤ l.length ∧ IsRd wr R g o cap l k ∧ Upd (fun b => b = R) w wr ∧ (∀ j x, n ≤ j → j < k → l[j]? = some x → isC 1 x = true)) (fun wr => l.length - (intOf ((wr.cell? ⟨R, 257, none⟩).getD undef)).toNat)
  case atStart => exact ⟨n, Nat.le_refl _, hn, H.out, Upd.refl _ _, fun j x h1 h2 => by omega⟩
  case round =>
    obtain ⟨k, hk1, hk2, hrd, hU, hall⟩ := hrel
    have c256 := hrd.c256
    have c257 := hrd.c257
    have fz := hrd.fz 257
    have Hall := Lib.hid hall
    have Hrd := Lib.hid hrd
    clear hall
    by_cases hlt : k < l.length
    · obtain ⟨x, hx⟩ : ∃ x, l[k]? = some x := ⟨_, List.getElem?_eq_getElem hlt⟩
      have hb := hrd.bytes k x hx
      have hx2 : (x.toNat : Int) < 256 := by have := UInt8.toNat_lt x; omega
      have hc := hrd.cls x.toNat (by omega)
      have Hx := Lib.hid hx
      clear hx hrd
      have hkk : (k : Int) < 9223372036854775807 := by have := Hle.out; omega
      cases hC : isC 1 x with
      | true =>
        have hbt : (bits BinOp.and IntKind.u8 (cls x.toNat) 1 != 0) = true := by simpa [isC] using hC
        go_wp2
        go_quiet (fail)
        go_wp2
        go_roundw
        case rel =>
          refine ⟨k + 1, by omega, by omega, ?_, (hU.drewN nq).setCell (fun _ => rfl) _, ?_⟩
          · exact_mod_cast (Hrd.out.drewN nq).set (k + 1)
          · intro j y h1 h2 h3
            by_cases e : j = k
            · subst e
              rw [Hx.out] at h3
              cases h3
              exact hC
            · exact Hall.out j y h1 (by omega) h3
        case measure =>
          rw [((Hrd.out.drewN nq).set (k + 1)).c257, c257]
          simp [intOf]
          omega
      | false =>
        have hbt : (bits BinOp.and IntKind.u8 (cls x.toNat) 1 != 0) = false := by simpa [isC] using hC
        obtain ⟨hW, hW2⟩ := wordAt_stop hk1 hk2 Hall.out (fun y hy => by rw [Hx.out] at hy; cases hy; exact hC)
        have HW := Lib.hid hW
        clear hW
        go_wp2
        go_quiet (fail)
        go_wp2
        obtain ⟨W, hWe⟩ : ∃ W, W = wr.drewN nq := ⟨_, rfl⟩
        have hrd2 := Hrd.out.drewN nq
        have hU2 := hU.drewN nq
        rw [← hWe] at hrd2 hU2 ⊢
        clear hWe c256 c257 hU fz
        have c256 := hrd2.c256
        have c257 := hrd2.c257
        have hkc : k ≤ cap := Nat.le_trans hk2 hrd2.few
        have hcv := fun nq => hrd2.conv2 (n := n) hk1 hk2 nq
        clear hkk hb hx2 hc hbt hC hlt hk2
        go_quiet (fail)
        go_wp2
        all_goals
          go_ret
          refine ⟨by rw [HW.out]; rfl, ?_, hU2.drewN _⟩
          first | exact hrd2.drewN _ | (have hcn : cap = n := (by assumption); rw [hcn] at hrd2; exact hrd2.drewN _)
    · have e : k = l.length := by omega
      obtain ⟨hW, hW2⟩ := wordAt_stop hk1 hk2 Hall.out (fun y hy => by rw [List.getElem?_eq_none (by omega)] at hy; cases hy)
      have HW := Lib.hid hW
      clear hW
      go_wp2
      go_quiet (fail)
      go_wp2
      obtain ⟨W, hWe⟩ : ∃ W, W = wr.drewN nq := ⟨_, rfl⟩
      have hrd2 := Hrd.out.drewN nq
      have hU2 := hU.drewN nq
      rw [← hWe] at hrd2 hU2 ⊢
      clear hWe c256 c257 hU fz
      have c256 := hrd2.c256
      have c257 := hrd2.c257
      have hkc : k ≤ cap := Nat.le_trans hk2 hrd2.few
      have hcv := fun nq => hrd2.conv2 (n := n) hk1 hk2 nq
      clear e hlt hk2
      go_quiet (fail)
      go_wp2
      all_goals
        go_ret
        refine ⟨by rw [HW.out]; rfl, ?_, hU2.drewN _⟩
        first | exact hrd2.drewN _ | (have hcn : cap = n := (by assumption); rw [hcn] at hrd2; exact hrd2.drewN _)
end Go.Proofs.YtjdgfdpbiidldaaGreatDoor
