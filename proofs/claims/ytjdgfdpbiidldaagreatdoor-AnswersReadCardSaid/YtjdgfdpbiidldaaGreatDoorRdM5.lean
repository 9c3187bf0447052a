/-
  Layer 3 (lex): the classes of bytes. No condition.
  Layer 3 (lex): all, Plain. No condition but the text's own size.
  Layer 3 (lex): the reader's cells; Plain. No condition but the text's own size.
  Layer 3 (lex): Plain. No condition but the text's own size.
  Layer 3 (lex): the reader as it lies; word. Conditions: the text's own size.
  The document's lexer (juristref03): word, numeral. Conditions: sizes; the bytes lie where they are said to lie.
  The document's lexer (juristref03): One, at a bracket and at a word. Conditions: sizes; the bytes lie where they are said to lie.
  Layer 3 (lex): Cut at a point, numerals. Conditions: the text's own size.
-/
import Derived.Test.YtjdgfdpbiidldaaGreatDoorRdM3
import Derived.Test.YtjdgfdpbiidldaaGreatDoorRdM2
import Derived.Deep.DeepCutAuto
import Derived.Laws.Tables
import Derived.Laws.IdiomStrings
import Derived.Test.YtjdgfdpbiidldaaGreatDoorRdM1
import Derived.Lib.IndexLaws
namespace Go.Proofs.YtjdgfdpbiidldaaGreatDoor
open Go.RowKit

def specials : List UInt8 := [126, 33, 64, 36, 37, 94, 38, 42, 95, 45, 43, 61, 60, 62, 46, 63, 47]
/-- what a byte may be, but for what may stand within marks -/
def cls0 (c : Nat) : Int :=
  if 48 ≤ c ∧ c ≤ 57 then 3 else if (97 ≤ c ∧ c ≤ 122) ∨ (65 ≤ c ∧ c ≤ 90) ∨ 0 ≤ Lib.indexByte specials c.toUInt8 then 1
  else if c = 9 ∨ c = 10 ∨ c = 13 ∨ c = 32 then 4 else 0
def cls (c : Nat) : Int := if cls0 c = 4 ∨ (32 < c ∧ c ≠ 127) then cls0 c + 8 else cls0 c

def clsCells : Array Value := (Array.range 256).map fun c => .int .u8 (cls c)
theorem clsCells_at (c : Nat) (h : c < 256) : clsCells[c]? = some (.int .u8 (cls c)) := by simp [clsCells, h]

theorem zero379' : Tryz.zeroCells379 = (Array.range 256).map fun _ => Value.int .u8 0 := by kernel_rfl
theorem zero379 (c : Nat) (hc : c < 256) : Tryz.zeroCells379[c]? = some (.int .u8 0) := by rw [zero379']; simp [hc]
theorem size379 : Tryz.zeroCells379.size = 256 := by rw [zero379']; simp

theorem not_special : ∀ c, c < 256 → c ≠ 0 → ((0 ≤ Lib.indexByte specials c.toUInt8) ↔ c ∈ [126, 33, 64, 36, 37, 94, 38, 42, 95, 45, 43, 61, 60, 62, 46, 63, 47]) := by decide +kernel
theorem zero_special : ¬ 0 ≤ Lib.indexByte specials (0 : Nat).toUInt8 := by decide +kernel

theorem or8_3 : bits BinOp.or IntKind.u8 3 8 = 11 := by decide +kernel
theorem or8_1 : bits BinOp.or IntKind.u8 1 8 = 9 := by decide +kernel
theorem or8_4 : bits BinOp.or IntKind.u8 4 8 = 12 := by decide +kernel
theorem or8_0 : bits BinOp.or IntKind.u8 0 8 = 8 := by decide +kernel

theorem set_same_at {cs : Array Value} {k : Nat} {v : Value} (h : k < cs.size) (j : Nat) : (cs.setIfInBounds k v)[j]? = if j = k then some v else cs[j]? := by
  rw [Array.getElem?_setIfInBounds]
  by_cases e : j = k
  · subst e; simp [h]
  · simp [e, Ne.symm e]

set_option maxHeartbeats 4000000 in
set_option maxRecDepth 100000 in
theorem classes_any (w : World) : Calls Tryz.prog 254 #[] w fun e w' => e = .returned (.agg clsCells) ∧ Below w.heap.size w w' := by
  have hpow : (0 : Int) ≤ 0 := by omega
  go_enter Tryz.func254, Tryz.ntmps254
  go_wp2
  go_loopw [1, 2, 3] (fun _ _ i wr => ∃ k : Nat, k ≤ 256 ∧ i = .int .i64 k ∧ Below w.heap.size w wr ∧ ∃ cs : Array Value, wr.heap[w.heap.size]? = some (.cells cs 379 (0, 0)) ∧ cs.size = 256 ∧ (∀ j, j < k → cs[j]? = some (.int .u8 (cls j))) ∧ (∀ j, k ≤ j → j < 256 → cs[j]? = some (.int .u8 0)))
    (fun _ _ i _ => 256 - (intOf i).toNat)
  case atStart => exact ⟨0, by omega, rfl, (Below.refl _ w).alloc (Nat.le_refl _) _, Tryz.zeroCells379, heap_alloc_new w _, size379, fun j hj => by omega, fun j _ hj => zero379 j hj⟩
  case round =>
    obtain ⟨k, hk, rfl, hbel, cs, hb, hsz, hlo, hhi⟩ := hrel
    by_cases hlt : k < 256
    · have hck : cs[k]? = some (.int .u8 0) := hhi k (Nat.le_refl _) hlt
      have hcell : wr.cell? ⟨w.heap.size, k, none⟩ = some (.int .u8 0) := by rw [Lib.cell_of_heap hb]; exact hck
      have hfz : ∀ o, wr.frozen? ⟨w.heap.size, o, none⟩ = false := fun o => Lib.frozen_of_heap hb o
      have Hlo := Lib.hid hlo
      have Hhi := Lib.hid hhi
      have Hb := Lib.hid hb
      have Hsz := Lib.hid hsz
      clear hlo hhi hb hsz hck
      have fin : ∀ (W : World) (cs2 : Array Value), W.heap[w.heap.size]? = some (.cells cs2 379 (0, 0)) → Below w.heap.size w W → cs2.size = 256 → (∀ j, cs2[j]? = if j = k then some (.int .u8 (cls k)) else cs[j]?) →
          ∃ k2 : Nat, k2 ≤ 256 ∧ Value.int .i64 (↑k + 1) = .int .i64 k2 ∧ Below w.heap.size w W ∧ ∃ cs : Array Value, W.heap[w.heap.size]? = some (.cells cs 379 (0, 0)) ∧ cs.size = 256 ∧ (∀ j, j < k2 → cs[j]? = some (.int .u8 (cls j))) ∧ (∀ j, k2 ≤ j → j < 256 → cs[j]? = some (.int .u8 0)) := by
        intro W cs2 h1 h2 h3 h4
        refine ⟨k + 1, by omega, by simp, h2, cs2, h1, h3, fun j hj => ?_, fun j hj hj2 => ?_⟩
        · rw [h4]
          split
          · rename_i e; rw [e]
          · exact Hlo.out j (by omega)
        · rw [h4, if_neg (by omega)]; exact Hhi.out j (by omega) hj2
      have Fin := Lib.hid fin
      clear fin
      have two : ∀ (v1 v2 : Value) (j : Nat), ((cs.setIfInBounds k v1).setIfInBounds k v2)[j]? = if j = k then some v2 else cs[j]? := by
        intro v1 v2 j
        rw [set_same_at (by simp [Hsz.out]; omega), set_same_at (by rw [Hsz.out]; omega)]
        split <;> rfl
      have Two := Lib.hid two
      clear two
      rcases (show (48 ≤ k ∧ k ≤ 57) ∨ (97 ≤ k ∧ k ≤ 122) ∨ (65 ≤ k ∧ k ≤ 90) ∨ (¬ (48 ≤ k ∧ k ≤ 57) ∧ ¬ (97 ≤ k ∧ k ≤ 122) ∧ ¬ (65 ≤ k ∧ k ≤ 90)) by omega) with h | h | h | h
      · obtain ⟨h1, h2⟩ := h
        have hc : cls k = 11 := by simp [cls, cls0, h1, h2]; omega
        have Hc := Lib.hid hc
        clear hc
        go_wp2
        go_roundw
        case rel =>
          refine Fin.out _ _ (heap_set_at (heap_set_at Hb.out _ _) _ _) ((hbel.setCell (p := ⟨w.heap.size, _, none⟩) (Nat.le_refl _) _).setCell (p := ⟨w.heap.size, _, none⟩) (Nat.le_refl _) _) (by simp [Hsz.out]) (fun j => ?_)
          rw [Two.out, or8_3, Hc.out]
        case measure => simp [intOf]; omega
      · obtain ⟨h1, h2⟩ := h
        have hc : cls k = 9 := by
          have g1 : ¬ (48 ≤ k ∧ k ≤ 57) := by omega
          have g2 : (97 ≤ k ∧ k ≤ 122) ∨ (65 ≤ k ∧ k ≤ 90) ∨ 0 ≤ Lib.indexByte specials k.toUInt8 := by omega
          have g3 : cls0 k = 1 := by unfold cls0; rw [if_neg g1, if_pos g2]
          unfold cls; rw [g3, if_pos (by omega)]; rfl
        have Hc := Lib.hid hc
        clear hc
        go_wp2
        go_roundw
        case rel =>
          refine Fin.out _ _ (heap_set_at (heap_set_at Hb.out _ _) _ _) ((hbel.setCell (p := ⟨w.heap.size, _, none⟩) (Nat.le_refl _) _).setCell (p := ⟨w.heap.size, _, none⟩) (Nat.le_refl _) _) (by simp [Hsz.out]) (fun j => ?_)
          rw [Two.out, or8_1, Hc.out]
        case measure => simp [intOf]; omega
      · obtain ⟨h1, h2⟩ := h
        have hc : cls k = 9 := by
          have g1 : ¬ (48 ≤ k ∧ k ≤ 57) := by omega
          have g2 : (97 ≤ k ∧ k ≤ 122) ∨ (65 ≤ k ∧ k ≤ 90) ∨ 0 ≤ Lib.indexByte specials k.toUInt8 := by omega
          have g3 : cls0 k = 1 := by unfold cls0; rw [if_neg g1, if_pos g2]
          unfold cls; rw [g3, if_pos (by omega)]; rfl
        have Hc := Lib.hid hc
        clear hc
        go_wp2
        go_roundw
        case rel =>
          refine Fin.out _ _ (heap_set_at (heap_set_at Hb.out _ _) _ _) ((hbel.setCell (p := ⟨w.heap.size, _, none⟩) (Nat.le_refl _) _).setCell (p := ⟨w.heap.size, _, none⟩) (Nat.le_refl _) _) (by simp [Hsz.out]) (fun j => ?_)
          rw [Two.out, or8_1, Hc.out]
        case measure => simp [intOf]; omega
      · obtain ⟨h1, h2, h3⟩ := h
        obtain ⟨X, hX⟩ : ∃ X, X = Lib.indexByte specials k.toUInt8 := ⟨_, rfl⟩
        have h329 : ∀ w, Calls Tryz.prog 329 #[.string ⟨#[126, 33, 64, 36, 37, 94, 38, 42, 95, 45, 43, 61, 60, 62, 46, 63, 47]⟩, .int .u8 k] w fun e w' => e = .returned (.int .i64 X) ∧ w = w' := fun w => by
          refine (Tryz.strings_IndexByte ⟨#[126, 33, 64, 36, 37, 94, 38, 42, 95, 45, 43, 61, 60, 62, 46, 63, 47]⟩ k w).mono ?_
          rintro e w' ⟨he, hw⟩
          exact ⟨by rw [he, hX]; rfl, hw.symm⟩
        have H329 := Lib.hid h329
        clear h329
        have g1 : ¬ (48 ≤ k ∧ k ≤ 57) := by omega
        have hcc : cls0 k = if 0 ≤ X then 1 else if k = 9 ∨ k = 10 ∨ k = 13 ∨ k = 32 then 4 else 0 := by
          unfold cls0
          rw [if_neg g1, ← hX]
          by_cases hX0 : 0 ≤ X
          · rw [if_pos (by omega), if_pos hX0]
          · rw [if_neg (by omega), if_neg hX0]
        have hsp : k ≠ 0 → (0 ≤ X ↔ k ∈ [126, 33, 64, 36, 37, 94, 38, 42, 95, 45, 43, 61, 60, 62, 46, 63, 47]) := fun h0 => by rw [hX]; exact not_special k hlt h0
        have hs0 : k = 0 → ¬ 0 ≤ X := fun h0 => by rw [hX, h0]; exact zero_special
        have Hcc := Lib.hid hcc
        have Hsp := Lib.hid hsp
        clear hcc hsp hX
        by_cases hX0 : 0 ≤ X
        · have hk0 : k ≠ 0 := fun e => hs0 e hX0
          have hmem := (Hsp.out hk0).1 hX0
          have h32 : 32 < k ∧ k ≠ 127 := by simp at hmem; omega
          have hc : cls k = 9 := by unfold cls; rw [Hcc.out, if_pos hX0, if_pos (.inr h32)]; rfl
          have Hc := Lib.hid hc
          obtain ⟨q1, q2⟩ := h32
          have q0 : 0 < k := by omega
          have q3 : ((k : Int) != 0) = true := by simp; omega
          have q4 : decide (0 ≤ X) = true := by simpa using hX0
          clear hc hmem hs0 hk0
          go_wp2_with (first | (go_at_call 329; refine (H329.out _).mono ?_; rintro e w' ⟨rfl, rfl⟩))
          all_goals
            go_roundw
            case rel =>
              refine Fin.out _ _ (heap_set_at (heap_set_at Hb.out _ _) _ _) ((hbel.setCell (p := ⟨w.heap.size, _, none⟩) (Nat.le_refl _) _).setCell (p := ⟨w.heap.size, _, none⟩) (Nat.le_refl _) _) (by simp [Hsz.out]) (fun j => ?_)
              rw [Two.out, or8_1, Hc.out]
            case measure => simp [intOf]; omega
        · have q4 : decide (0 ≤ X) = false := by simpa using hX0
          by_cases hk0 : k = 0
          · subst hk0
            have hc : cls 0 = 0 := by unfold cls; rw [Hcc.out, if_neg hX0, if_neg (by omega), if_neg (by omega)]
            have Hc := Lib.hid hc
            clear hc hs0
            go_wp2
            all_goals
              go_roundw
              case rel =>
                refine Fin.out _ _ Hb.out hbel Hsz.out (fun j => ?_)
                by_cases e : j = 0
                · rw [if_pos e, e, Hc.out]; exact Hhi.out 0 (Nat.le_refl _) hlt
                · rw [if_neg e]
              case measure => first | (simp [intOf]; done) | (simp [intOf]; omega)
          have q0 : 0 < k := by omega
          have q3 : ((k : Int) != 0) = true := by simp; omega
          by_cases hbl : k = 9 ∨ k = 10 ∨ k = 13 ∨ k = 32
          · have hc : cls k = 12 := by unfold cls; rw [Hcc.out, if_neg hX0, if_pos hbl, if_pos (.inl rfl)]; rfl
            have Hc := Lib.hid hc
            clear hc hs0 hk0
            rcases hbl with rfl | rfl | rfl | rfl
            all_goals
              go_wp2_with (first | (go_at_call 329; refine (H329.out _).mono ?_; rintro e w' ⟨rfl, rfl⟩))
              all_goals
                go_roundw
                case rel =>
                  refine Fin.out _ _ (heap_set_at (heap_set_at Hb.out _ _) _ _) ((hbel.setCell (p := ⟨w.heap.size, _, none⟩) (Nat.le_refl _) _).setCell (p := ⟨w.heap.size, _, none⟩) (Nat.le_refl _) _) (by simp [Hsz.out]) (fun j => ?_)
                  rw [Two.out, or8_4, Hc.out]
                case measure => first | (simp [intOf]; done) | (simp [intOf]; omega)
          have hcl : cls0 k = 0 := by rw [Hcc.out, if_neg hX0, if_neg hbl]
          have n9 : ((k : Int) == 9) = false := by simp; omega
          have n10 : ((k : Int) == 10) = false := by simp; omega
          have n13 : ((k : Int) == 13) = false := by simp; omega
          have n32 : ((k : Int) == 32) = false := by simp; omega
          by_cases h32 : 32 < k
          · by_cases h127 : k = 127
            · subst h127
              have hc : cls 127 = 0 := by unfold cls; rw [hcl, if_neg (by omega)]
              have Hc := Lib.hid hc
              clear hc hs0 hk0 hbl hcl
              go_wp2_with (first | (go_at_call 329; refine (H329.out _).mono ?_; rintro e w' ⟨rfl, rfl⟩))
              all_goals
                go_roundw
                case rel =>
                  refine Fin.out _ _ Hb.out hbel Hsz.out (fun j => ?_)
                  by_cases e : j = 127
                  · rw [if_pos e, e, Hc.out]; exact Hhi.out 127 (Nat.le_refl _) hlt
                  · rw [if_neg e]
                case measure => first | (simp [intOf]; done) | (simp [intOf]; omega)
            · have hc : cls k = 8 := by unfold cls; rw [hcl, if_pos (.inr ⟨h32, h127⟩)]; rfl
              have Hc := Lib.hid hc
              have n127 : ((k : Int) != 127) = true := by simp; omega
              clear hc hs0 hk0 hbl hcl h127
              go_wp2_with (first | (go_at_call 329; refine (H329.out _).mono ?_; rintro e w' ⟨rfl, rfl⟩))
              all_goals
                go_roundw
                case rel =>
                  refine Fin.out _ _ (heap_set_at Hb.out _ _) (hbel.setCell (p := ⟨w.heap.size, _, none⟩) (Nat.le_refl _) _) (by simp [Hsz.out]) (fun j => ?_)
                  rw [set_same_at (by rw [Hsz.out]; omega), or8_0, Hc.out]
                case measure => first | (simp [intOf]; done) | (simp [intOf]; omega)
          · have hc : cls k = 0 := by unfold cls; rw [hcl, if_neg (by omega)]
            have Hc := Lib.hid hc
            clear hc hs0 hk0 hbl hcl
            go_wp2_with (first | (go_at_call 329; refine (H329.out _).mono ?_; rintro e w' ⟨rfl, rfl⟩))
            all_goals
              go_roundw
              case rel =>
                refine Fin.out _ _ Hb.out hbel Hsz.out (fun j => ?_)
                by_cases e : j = k
                · rw [if_pos e, e, Hc.out]; exact Hhi.out k (Nat.le_refl _) hlt
                · rw [if_neg e]
              case measure => first | (simp [intOf]; done) | (simp [intOf]; omega)
    · obtain rfl : k = 256 := by omega
      have hcs : cs = clsCells := by
        apply Array.ext_getElem?
        intro j
        by_cases hj : j < 256
        · rw [hlo j hj, clsCells_at j hj]
        · rw [Array.getElem?_eq_none (by omega), Array.getElem?_eq_none (by simp [clsCells]; omega)]
      subst hcs
      have hi379 : (Tryz.prog.info? 379).map (·.size) = some clsCells.size := by rw [show clsCells.size = 256 by simp [clsCells]]; kernel_rfl
      have hone : clsCells.all (·.oneCell') = true := by
        rw [Array.all_eq_true_iff_forall_mem]
        intro x hx
        obtain ⟨c, _, rfl⟩ := Array.mem_map.1 hx
        rfl
      have Hlo := Lib.hid hlo
      clear hlo hhi hsz hlt hk
      go_wp2_with (first | (refine wpList_load_row rfl 379 _ rfl w.heap.size rfl 379 clsCells (0, 0) _ hb Tryz.underlying379 rfl hi379 ?_) | (refine wpList_store_row rfl 379 _ _ rfl w.heap.size clsCells rfl rfl 379 clsCells hb hi379 rfl hone ?_))
      refine bodyPost_ret (results_cell_row rfl _ _ w.heap.size 379 clsCells (0, 0) _ rfl (setRow_heap wr w.heap.size clsCells clsCells 379 (0, 0) hb) Tryz.underlying379 rfl hi379) rfl ⟨rfl, ?_⟩
      exact hbel.trans ⟨rfl, rfl, rfl, by simp [World.setRow], fun k hk => setRow_other wr w.heap.size k clsCells (by omega)⟩
end Go.Proofs.YtjdgfdpbiidldaaGreatDoor

namespace Go.Proofs.YtjdgfdpbiidldaaGreatDoor
open Go.RowKit

/-- is a byte of a class? -/
def isC (c : Int) (x : UInt8) : Bool := bits BinOp.and IntKind.u8 (cls x.toNat) c != 0
def allB (c : Int) (l : List UInt8) : Bool := !l.isEmpty && l.all (isC c)

theorem toList_get (s : ByteArray) (k : Nat) (h : k < s.size) : s.toList[k]? = some (s[k]'h) := by
  rw [ByteArray.toList_eq, Array.getElem?_toList]
  exact Array.getElem?_eq_getElem h
theorem toList_length (s : ByteArray) : s.toList.length = s.size := by rw [ByteArray.toList_eq]; exact Array.length_toList

set_option maxHeartbeats 1000000 in
set_option maxRecDepth 100000 in
theorem all_any (R : Nat) (s : ByteArray) (c : Int) (w : World) (hs : s.size ≤ 9223372036854775806) (hcls : ∀ j, j < 256 → w.cell? ⟨R, j, none⟩ = some (.int .u8 (cls j))) :
    Calls Tryz.prog 255 #[.pointer (some ⟨R, 0, none⟩), .string s, .int .u8 c] w fun e w' => e = .returned (.bool (allB c s.toList)) ∧ ∃ n, w' = w.drewN n := by
  have Hs := Lib.hid hs
  have Hcls := Lib.hid hcls
  clear hs hcls
  go_enter Tryz.func255, Tryz.ntmps255
  go_wp2
  go_loopw [7, 10] (fun _ i wr => ∃ k : Nat, k ≤ s.size ∧ i = .int .i64 k ∧ (∀ j, j < k → ∀ x, s.toList[j]? = some x → isC c x = true) ∧ ∃ n, wr = w.drewN n) (fun _ i _ => s.size - (intOf i).toNat)
  case atStart => exact ⟨0, by omega, rfl, fun j hj => by omega, 0, rfl⟩
  case round =>
    obtain ⟨k, hk, rfl, hall, n, rfl⟩ := hrel
    have Hall := Lib.hid hall
    clear hall
    by_cases hlt : k < s.size
    · have hx := toList_get s k hlt
      have hlt2 : (s[k].toNat : Int) < 256 := by have := UInt8.toNat_lt s[k]; omega
      have hc : w.cell? ⟨R, s[k].toNat, none⟩ = some (.int .u8 (cls s[k].toNat)) := Hcls.out _ (by omega)
      have Hx := Lib.hid hx
      clear hx
      have hkk : (k : Int) < 9223372036854775807 := by have := Hs.out; omega
      cases hC : isC c s[k] with
      | true =>
        have hb : (bits BinOp.and IntKind.u8 (cls s[k].toNat) c == 0) = false := by simpa [isC] using hC
        go_wp2
        go_quiet (fail)
        go_wp2
        go_roundw
        case rel =>
          refine ⟨k + 1, by omega, by simp, fun j hj x hjx => ?_, n + nq, by simp⟩
          by_cases e : j = k
          · subst e
            rw [Hx.out] at hjx
            cases hjx
            exact hC
          · exact Hall.out j (by omega) x hjx
        case measure => simp [intOf]; omega
      | false =>
        have hb : (bits BinOp.and IntKind.u8 (cls s[k].toNat) c == 0) = true := by simpa [isC] using hC
        go_wp2
        go_quiet (fail)
        go_wp2
        go_ret
        refine ⟨?_, n + nq, by simp⟩
        have h2 : s.toList.all (isC c) = false := by
          rw [List.all_eq_false]
          exact ⟨s[k], List.mem_of_getElem? Hx.out, by simp [hC]⟩
        simp [allB, h2]
    · obtain rfl : k = s.size := by omega
      have h2 : s.toList.all (isC c) = true := by
        rw [List.all_eq_true]
        intro x hx
        obtain ⟨j, hj⟩ := List.mem_iff_getElem?.1 hx
        have hj2 : j < s.toList.length := (List.getElem?_eq_some_iff.1 hj).1
        exact Hall.out j (by rw [← toList_length]; exact hj2) x hj
      have H2 := Lib.hid h2
      clear h2
      go_wp2
      go_ret
      refine ⟨?_, _, rfl⟩
      simp [allB, H2.out]
end Go.Proofs.YtjdgfdpbiidldaaGreatDoor

namespace Go.Proofs.YtjdgfdpbiidldaaGreatDoor
open Go.RowKit

theorem build_rd (w : World) (v : Value) (h : (match v with | .slice _ _ _ => true | _ => false) = true) : (Instr.build 382 #[(0, .agg clsCells), (1, v)]).run Tryz.prog w = .ok (.agg (clsCells ++ #[v, .int .i64 0])) w := by
  cases v with
  | slice a n c => kernel_rfl
  | _ => cases h
theorem build_rd0 (w : World) : (Instr.build 382 #[(0, .agg clsCells)]).run Tryz.prog w = .ok (.agg (clsCells ++ #[.slice none 0 0, .int .i64 0])) w := by kernel_rfl
end Go.Proofs.YtjdgfdpbiidldaaGreatDoor

namespace Go.Proofs.YtjdgfdpbiidldaaGreatDoor
open Go.RowKit

theorem wpList_build {P : Program} {w : World} {ops : Array Oper} {rest : List Oper} {o : Oper} {a : Act} {Q : Exit → Act → World → Prop} (hgd : o.guard = none) (t : TypeId) (parts : Array (Nat × Operand)) (ho : o.op = .build t parts)
    (v : Value) (hrun : (Instr.build t (parts.map fun (i, x) => (i, a.eval x))).run P w = .ok v w) (h : wpList P ops Q rest (a.put o.dst v) w) : wpList P ops Q (o :: rest) a w := by
  refine wpList_plain hgd fun K' hK' => ?_
  unfold Oper.wp
  simp [execOp, ho, hrun, Result.andThen]
  exact hK' _ _ h

theorem wpList_build1 {P : Program} {w : World} {ops : Array Oper} {rest : List Oper} {o : Oper} {a : Act} {Q : Exit → Act → World → Prop} (hgd : o.guard = none) (t : TypeId) (i : Nat) (x : Operand) (ho : o.op = .build t #[(i, x)])
    (v : Value) (hrun : (Instr.build t #[(i, a.eval x)]).run P w = .ok v w) (h : wpList P ops Q rest (a.put o.dst v) w) : wpList P ops Q (o :: rest) a w :=
  wpList_build hgd t _ ho v (by simpa using hrun) h
theorem wpList_build2 {P : Program} {w : World} {ops : Array Oper} {rest : List Oper} {o : Oper} {a : Act} {Q : Exit → Act → World → Prop} (hgd : o.guard = none) (t : TypeId) (i j : Nat) (x y : Operand) (ho : o.op = .build t #[(i, x), (j, y)])
    (v : Value) (hrun : (Instr.build t #[(i, a.eval x), (j, a.eval y)]).run P w = .ok v w) (h : wpList P ops Q rest (a.put o.dst v) w) : wpList P ops Q (o :: rest) a w :=
  wpList_build hgd t _ ho v (by simpa using hrun) h

def rdCells (v : Value) (at_ : Int) : Array Value := clsCells ++ #[v, .int .i64 at_]
theorem rdCells_cls (v : Value) (n : Int) (j : Nat) (hj : j < 256) : (rdCells v n)[j]? = some (.int .u8 (cls j)) := by
  rw [rdCells, Array.getElem?_append_left (by simp [clsCells]; exact hj)]; exact clsCells_at j hj
theorem rdCells_b (v : Value) (n : Int) : (rdCells v n)[256]? = some v := by
  rw [rdCells, Array.getElem?_append_right (by simp [clsCells])]; simp [clsCells]
theorem rdCells_at (v : Value) (n : Int) : (rdCells v n)[257]? = some (.int .i64 n) := by
  rw [rdCells, Array.getElem?_append_right (by simp [clsCells])]; simp [clsCells]
theorem rdCells_size (v : Value) (n : Int) : (rdCells v n).size = 258 := by simp [rdCells, clsCells]
theorem rdCells_one (v : Value) (n : Int) (hv : v.oneCell' = true) : (rdCells v n).all (·.oneCell') = true := by
  rw [Array.all_eq_true_iff_forall_mem]
  intro x hx
  rcases Array.mem_append.1 hx with hx | hx
  · obtain ⟨c, _, rfl⟩ := Array.mem_map.1 hx; rfl
  · simp at hx
    rcases hx with rfl | rfl
    · exact hv
    · rfl
theorem hi382 : (Tryz.prog.info? 382).map (·.size) = some 258 := by kernel_rfl
theorem zsize382 : Tryz.zeroCells382.size = 258 := by kernel_rfl

/-- may a text stand without bars? -/
def plainB (l : List UInt8) : Bool := allB 1 l && (match l with | x :: _ => !isC 2 x | [] => false)

set_option maxHeartbeats 1000000 in
set_option maxRecDepth 100000 in
theorem plain_any (s : ByteArray) (w : World) (hs : s.size ≤ 9223372036854775806) :
    Calls Tryz.prog 191 #[.string s] w fun e w' => e = .returned (.bool (plainB s.toList)) ∧ Below w.heap.size w w' := by
  have Hs := Lib.hid hs
  clear hs
  obtain ⟨C, hC⟩ : ∃ C, C = clsCells := ⟨_, rfl⟩
  obtain ⟨R, hR⟩ : ∃ R, R = rdCells (.slice none 0 0) 0 := ⟨_, rfl⟩
  have hbr : ∀ w, (Instr.build 382 #[(0, .agg C)]).run Tryz.prog w = .ok (.agg R) w := by rw [hC, hR]; exact build_rd0
  have hcl := classes_any w
  rw [← hC] at hcl
  have h1 : (Tryz.prog.info? 382).map (·.size) = some R.size := by rw [hR, rdCells_size]; exact hi382
  have h2 : Tryz.zeroCells382.size = R.size := by rw [hR, rdCells_size]; exact zsize382
  have h3 : R.all (·.oneCell') = true := by rw [hR]; exact rdCells_one _ _ rfl
  have h4 : ∀ j, j < 256 → R[j]? = some (.int .u8 (cls j)) := by rw [hR]; exact rdCells_cls _ _
  clear hC hR
  go_enter Tryz.func191, Tryz.ntmps191
  go_wp2_with fail
  refine hcl.mono ?_
  rintro e w1 ⟨rfl, hb1⟩
  simp only []
  go_step
  refine wpList_build1 rfl 382 0 (.tmp 4) rfl (.agg R) (hbr w1) ?_
  go_wp2_with (first | (refine wpList_store_row rfl 382 _ _ rfl w1.heap.size R rfl rfl 382 Tryz.zeroCells382 (heap_alloc_new w1 _) h1 h2 h3 ?_))
  obtain ⟨W, hW⟩ : ∃ W, W = (w1.alloc (Obj.cells Tryz.zeroCells382 382)).setRow w1.heap.size R := ⟨_, rfl⟩
  have hcell : ∀ j, j < 256 → W.cell? ⟨w1.heap.size, j, none⟩ = some (.int .u8 (cls j)) := by
    intro j hj
    rw [hW, Lib.cell_of_heap (setRow_heap _ w1.heap.size Tryz.zeroCells382 R 382 (0, 0) (heap_alloc_new w1 _))]
    exact h4 j hj
  have hbel : Below w.heap.size w W := by
    rw [hW]
    exact (hb1.alloc hb1.size _).trans ⟨rfl, rfl, rfl, by simp [World.setRow], fun k hk => setRow_other _ w1.heap.size k R (by have := hb1.size; omega)⟩
  rw [← hW]
  clear hW h1 h2 h3 h4 hbr hcl hb1
  refine (all_any w1.heap.size s 1 W Hs.out hcell).mono ?_
  rintro e w2 ⟨rfl, n, rfl⟩
  have Hcell := Lib.hid hcell
  clear hcell
  cases hA : allB 1 s.toList with
  | false =>
    go_wp2
    go_ret
    exact ⟨by simp [plainB, hA], below_drewN hbel n⟩
  | true =>
    have hpos : 0 < s.size := by
      have h : s.toList ≠ [] := by intro h; rw [h] at hA; simp [allB] at hA
      have := toList_length s
      have h3 : 0 < s.toList.length := List.length_pos_iff.2 h
      omega
    have hx := toList_get s 0 hpos
    have hx2 : (s[0].toNat : Int) < 256 := by have := UInt8.toNat_lt s[0]; omega
    have hc : W.cell? ⟨w1.heap.size, s[0].toNat, none⟩ = some (.int .u8 (cls s[0].toNat)) := Hcell.out _ (by omega)
    have hp : plainB s.toList = (bits BinOp.and IntKind.u8 (cls s[0].toNat) 2 == 0) := by
      cases hl : s.toList with
      | nil => rw [hl] at hx; simp at hx
      | cons x l =>
        rw [hl] at hx hA
        simp at hx
        subst hx
        simp [plainB, hA, isC, bne]
    have Hp := Lib.hid hp
    clear hx hA hp
    go_wp2
    go_ret
    refine ⟨?_, below_drewN hbel n⟩
    rw [Hp.out]
    rfl
end Go.Proofs.YtjdgfdpbiidldaaGreatDoor

namespace Go.Proofs.YtjdgfdpbiidldaaGreatDoor
open Go.RowKit

/-- a reader of l, at a place, whose bytes lie in block g from o -/
structure IsRd (w : World) (R g o cap : Nat) (l : List UInt8) (at_ : Int) : Prop where
  heap : w.heap[R]? = some (.cells (rdCells (.slice (some ⟨g, o, none⟩) l.length cap) at_) 382 (0, 0))
  bytes : ∀ j x, l[j]? = some x → w.cell? ⟨g, o + j, none⟩ = some (.int .u8 x.toNat)
  other : g ≠ R
  few : l.length ≤ cap

theorem IsRd.cls {w : World} {R g o cap : Nat} {l : List UInt8} {n : Int} (h : IsRd w R g o cap l n) (j : Nat) (hj : j < 256) : w.cell? ⟨R, j, none⟩ = some (.int .u8 (cls j)) := by
  rw [Lib.cell_of_heap h.heap]; exact rdCells_cls _ _ j hj
theorem IsRd.c256 {w : World} {R g o cap : Nat} {l : List UInt8} {n : Int} (h : IsRd w R g o cap l n) : w.cell? ⟨R, 256, none⟩ = some (.slice (some ⟨g, o, none⟩) l.length cap) := by
  rw [Lib.cell_of_heap h.heap]; exact rdCells_b _ _
theorem IsRd.c257 {w : World} {R g o cap : Nat} {l : List UInt8} {n : Int} (h : IsRd w R g o cap l n) : w.cell? ⟨R, 257, none⟩ = some (.int .i64 n) := by
  rw [Lib.cell_of_heap h.heap]; exact rdCells_at _ _
theorem IsRd.fz {w : World} {R g o cap : Nat} {l : List UInt8} {n : Int} (h : IsRd w R g o cap l n) (c : Nat) : w.frozen? ⟨R, c, none⟩ = false := Lib.frozen_of_heap h.heap c
theorem rdCells_set (v : Value) (n m : Int) : (rdCells v n).setIfInBounds 257 (.int .i64 m) = rdCells v m := by
  apply Array.ext_getElem?
  intro j
  rw [set_same_at (by rw [rdCells_size]; omega)]
  split
  · rename_i e; subst e; rw [rdCells_at]
  · rename_i e
    by_cases h : j < 256
    · rw [rdCells_cls _ _ _ h, rdCells_cls _ _ _ h]
    · by_cases h2 : j = 256
      · subst h2; rw [rdCells_b, rdCells_b]
      · rw [Array.getElem?_eq_none (by rw [rdCells_size]; omega), Array.getElem?_eq_none (by rw [rdCells_size]; omega)]
theorem IsRd.set {w : World} {R g o cap : Nat} {l : List UInt8} {n : Int} (h : IsRd w R g o cap l n) (m : Int) : IsRd (w.setCell ⟨R, 257, none⟩ (.int .i64 m)) R g o cap l m := by
  refine ⟨?_, ?_, h.other, h.few⟩
  · rw [heap_set_at h.heap, rdCells_set]
  · intro j x hx
    have := h.bytes j x hx
    rw [← this]
    unfold World.cell?
    simp only []
    rw [Below.heap_setCell _ _ _ _ h.other]
theorem IsRd.drewN {w : World} {R g o cap : Nat} {l : List UInt8} {n : Int} (h : IsRd w R g o cap l n) (m : Nat) : IsRd (w.drewN m) R g o cap l n := ⟨h.heap, h.bytes, h.other, h.few⟩

theorem takeWhile_stop {α : Type} (p : α → Bool) : ∀ (m : List α) (k : Nat), k ≤ m.length → (∀ j x, j < k → m[j]? = some x → p x = true) → (∀ x, m[k]? = some x → p x = false) → m.takeWhile p = m.take k
  | [], k, h, _, _ => by simp
  | x :: m, 0, _, _, h => by
    have := h x (by simp)
    simp [this]
  | x :: m, k + 1, h, h1, h2 => by
    have := h1 0 x (by omega) (by simp)
    simp only [List.takeWhile_cons, this, if_true, List.take_succ_cons]
    rw [takeWhile_stop p m k (by simpa using h) (fun j y hj hy => h1 (j + 1) y (by omega) (by simpa using hy)) (fun y hy => h2 y (by simpa using hy))]

/-- the letters from a place on -/
def wordAt (l : List UInt8) (at_ : Nat) : List UInt8 := (l.drop at_).takeWhile (isC 1)

theorem wordAt_stop {l : List UInt8} {n k : Nat} (hnk : n ≤ k) (hk : k ≤ l.length) (h1 : ∀ j x, n ≤ j → j < k → l[j]? = some x → isC 1 x = true) (h2 : ∀ x, l[k]? = some x → isC 1 x = false) : wordAt l n = (l.drop n).take (k - n) ∧ (wordAt l n).length = k - n := by
  have h : wordAt l n = (l.drop n).take (k - n) := by
    refine takeWhile_stop _ _ _ (by simp; omega) (fun j x hj hx => ?_) (fun x hx => ?_)
    · rw [List.getElem?_drop] at hx
      exact h1 (n + j) x (by omega) (by omega) hx
    · rw [List.getElem?_drop] at hx
      have e : n + (k - n) = k := by omega
      rw [e] at hx
      exact h2 x hx
  refine ⟨h, ?_⟩
  rw [h]; simp; omega

theorem IsRd.conv {w : World} {R g o cap n k : Nat} {l : List UInt8} {m : Int} (h : IsRd w R g o cap l m) (hnk : n ≤ k) (hk : k ≤ l.length) (c : Nat) (nq : Nat) : (convert 72 9 (.slice (some ⟨g, o + n, none⟩) (k - n) c)).run Tryz.prog (w.drewN nq) = .ok (.string ⟨((l.drop n).take (k - n)).toArray⟩) (w.drewN nq) := by
  have hlen : ((l.drop n).take (k - n)).length = k - n := by simp; omega
  have := run_convert_bytes_back (P := Tryz.prog) (w.drewN nq) 72 9 5 ⟨g, o + n, none⟩ c ((l.drop n).take (k - n)) Tryz.underlying72 Tryz.underlying5 Tryz.underlying9 (by
    intro j hj
    have hj2 : j < k - n := by omega
    have h1 : l[n + j]? = some ((l.drop n).take (k - n))[j] := by
      rw [← List.getElem?_eq_getElem hj, List.getElem?_take, if_pos hj2, List.getElem?_drop]
    have h2 := h.bytes _ _ h1
    show w.cell? _ = _
    rw [← h2]
    unfold Addr.add
    split <;> simp_all [Nat.add_assoc])
  rw [hlen] at this
  exact this

/-- a cut of the bytes, as the walk writes it, as a text -/
theorem IsRd.conv2 {w : World} {R g o cap n k : Nat} {l : List UInt8} {m : Int} (h : IsRd w R g o cap l m) (hnk : n ≤ k) (hk : k ≤ l.length) (nq : Nat) : (convert 72 9 (.slice (if cap = n then some ⟨g, o, none⟩ else some ⟨g, o + n, none⟩) (k - n) (cap - n))).run Tryz.prog (w.drewN nq) = .ok (.string ⟨((l.drop n).take (k - n)).toArray⟩) (w.drewN nq) := by
  split
  · rename_i e
    have := h.few
    have e2 : k = n := by omega
    subst e2
    have h3 := run_convert_bytes_back (P := Tryz.prog) (w.drewN nq) 72 9 5 ⟨g, o, none⟩ (cap - k) [] Tryz.underlying72 Tryz.underlying5 Tryz.underlying9 (by intro j hj; simp at hj)
    simpa using h3
  · exact h.conv hnk hk _ nq

set_option maxHeartbeats 1000000 in
set_option maxRecDepth 100000 in
theorem word_any (R g o cap : Nat) (l : List UInt8) (n : Nat) (w : World) (h : IsRd w R g o cap l n) (hn : n ≤ l.length) (hl : l.length ≤ 9223372036854775806) :
    Calls Tryz.prog 334 #[.pointer (some ⟨R, 0, none⟩)] w fun e w' => e = .returned (.string ⟨(wordAt l n).toArray⟩) ∧ IsRd w' R g o cap l (n + (wordAt l n).length : Nat) ∧ Upd (fun k => k = R) w w' := by
  have hle : l.length ≤ 9223372036854775806 := hl
  have H := Lib.hid h
  have Hle := Lib.hid hle
  have c257 := h.c257
  clear h hl hle
  go_enter Tryz.func334, Tryz.ntmps334
  go_wp2
  clear c257
  go_loopw [] (fun wr => ∃ k : Nat, n ≤ k ∧ k ≤ l.length ∧ IsRd wr R g o cap l k ∧ Upd (fun b => b = R) w wr ∧ (∀ j x, n ≤ j → j < k → l[j]? = some x → isC 1 x = true)) (fun wr => l.length - (intOf ((wr.cell? ⟨R, 257, none⟩).getD undef)).toNat)
  case atStart => exact ⟨n, Nat.le_refl _, hn, H.out, Upd.refl _ _, fun j x h1 h2 => by omega⟩
  case round =>
    obtain ⟨k, hk1, hk2, hrd, hU, hall⟩ := hrel
    have c256 := hrd.c256
    have c257 := hrd.c257
    have fz := hrd.fz 257
    have Hall := Lib.hid hall
    have Hrd := Lib.hid hrd
    clear hall
    by_cases hlt : k < l.length
    · obtain ⟨x, hx⟩ : ∃ x, l[k]? = some x := ⟨_, List.getElem?_eq_getElem hlt⟩
      have hb := hrd.bytes k x hx
      have hx2 : (x.toNat : Int) < 256 := by have := UInt8.toNat_lt x; omega
      have hc := hrd.cls x.toNat (by omega)
      have Hx := Lib.hid hx
      clear hx hrd
      have hkk : (k : Int) < 9223372036854775807 := by have := Hle.out; omega
      cases hC : isC 1 x with
      | true =>
        have hbt : (bits BinOp.and IntKind.u8 (cls x.toNat) 1 != 0) = true := by simpa [isC] using hC
        go_wp2
        go_quiet (fail)
        go_wp2
        go_roundw
        case rel =>
          refine ⟨k + 1, by omega, by omega, ?_, (hU.drewN nq).setCell (fun _ => rfl) _, ?_⟩
          · exact_mod_cast (Hrd.out.drewN nq).set (k + 1)
          · intro j y h1 h2 h3
            by_cases e : j = k
            · subst e
              rw [Hx.out] at h3
              cases h3
              exact hC
            · exact Hall.out j y h1 (by omega) h3
        case measure =>
          rw [((Hrd.out.drewN nq).set (k + 1)).c257, c257]
          simp [intOf]
          omega
      | false =>
        have hbt : (bits BinOp.and IntKind.u8 (cls x.toNat) 1 != 0) = false := by simpa [isC] using hC
        obtain ⟨hW, hW2⟩ := wordAt_stop hk1 hk2 Hall.out (fun y hy => by rw [Hx.out] at hy; cases hy; exact hC)
        have HW := Lib.hid hW
        clear hW
        go_wp2
        go_quiet (fail)
        go_wp2
        obtain ⟨W, hWe⟩ : ∃ W, W = wr.drewN nq := ⟨_, rfl⟩
        have hrd2 := Hrd.out.drewN nq
        have hU2 := hU.drewN nq
        rw [← hWe] at hrd2 hU2 ⊢
        clear hWe c256 c257 hU fz
        have c256 := hrd2.c256
        have c257 := hrd2.c257
        have hkc : k ≤ cap := Nat.le_trans hk2 hrd2.few
        have hcv := fun nq => hrd2.conv2 (n := n) hk1 hk2 nq
        clear hkk hb hx2 hc hbt hC hlt hk2
        go_quiet (fail)
        go_wp2
        all_goals
          go_ret
          refine ⟨by rw [HW.out]; rfl, ?_, hU2.drewN _⟩
          first | exact hrd2.drewN _ | (have hcn : cap = n := (by assumption); rw [hcn] at hrd2; exact hrd2.drewN _)
    · have e : k = l.length := by omega
      obtain ⟨hW, hW2⟩ := wordAt_stop hk1 hk2 Hall.out (fun y hy => by rw [List.getElem?_eq_none (by omega)] at hy; cases hy)
      have HW := Lib.hid hW
      clear hW
      go_wp2
      go_quiet (fail)
      go_wp2
      obtain ⟨W, hWe⟩ : ∃ W, W = wr.drewN nq := ⟨_, rfl⟩
      have hrd2 := Hrd.out.drewN nq
      have hU2 := hU.drewN nq
      rw [← hWe] at hrd2 hU2 ⊢
      clear hWe c256 c257 hU fz
      have c256 := hrd2.c256
      have c257 := hrd2.c257
      have hkc : k ≤ cap := Nat.le_trans hk2 hrd2.few
      have hcv := fun nq => hrd2.conv2 (n := n) hk1 hk2 nq
      clear e hlt hk2
      go_quiet (fail)
      go_wp2
      all_goals
        go_ret
        refine ⟨by rw [HW.out]; rfl, ?_, hU2.drewN _⟩
        first | exact hrd2.drewN _ | (have hcn : cap = n := (by assumption); rw [hcn] at hrd2; exact hrd2.drewN _)
end Go.Proofs.YtjdgfdpbiidldaaGreatDoor

namespace Go.Proofs.YtjdgfdpbiidldaaGreatDoor
open Go.RowKit

/-- bytes as they lie -/
def BytesAt (w : World) (g o : Nat) (l : List UInt8) : Prop := ∀ j x, l[j]? = some x → w.cell? ⟨g, o + j, none⟩ = some (.int .u8 x.toNat)
theorem BytesAt.below {w w' : World} {B g o : Nat} {l : List UInt8} (h : BytesAt w g o l) (hb : Below B w w') (hg : g < B) : BytesAt w' g o l := fun j x hx => by
  rw [← h j x hx]; exact hb.cell (p := ⟨g, o + j, none⟩) hg

/-- the letters from a place on -/
def rWord (l : List UInt8) (n : Nat) : List UInt8 := (l.drop n).takeWhile rLetter
theorem rWord_stop {l : List UInt8} {n k : Nat} (hnk : n ≤ k) (hk : k ≤ l.length) (h1 : ∀ j x, n ≤ j → j < k → l[j]? = some x → rLetter x = true) (h2 : ∀ x, l[k]? = some x → rLetter x = false) : rWord l n = (l.drop n).take (k - n) ∧ (rWord l n).length = k - n := by
  have h : rWord l n = (l.drop n).take (k - n) := by
    refine takeWhile_stop _ _ _ (by simp; omega) (fun j x hj hx => ?_) (fun x hx => ?_)
    · rw [List.getElem?_drop] at hx
      exact h1 (n + j) x (by omega) (by omega) hx
    · rw [List.getElem?_drop] at hx
      have e : n + (k - n) = k := by omega
      rw [e] at hx
      exact h2 x hx
  refine ⟨h, ?_⟩
  rw [h]; simp; omega
theorem ret_i {k : IntKind} {a b : Int} (h : a = b) : Ending.returned (.int k a) = .returned (.int k b) := by rw [h]

set_option maxHeartbeats 1000000 in
set_option maxRecDepth 100000 in
theorem rword_any (g o cap : Nat) (l : List UInt8) (n : Nat) (w : World) (hb : BytesAt w g o l) (hn : n ≤ l.length) (hl : l.length ≤ 9223372036854775806) :
    Calls Tryz.prog 153 #[.slice (some ⟨g, o, none⟩) l.length cap, .int .i64 n] w fun e w' => e = .returned (.int .i64 (rWord l n).length) ∧ w = w' := by
  have Hb := Lib.hid hb
  have hle : (l.length : Int) ≤ 9223372036854775806 := by omega
  clear hb hl
  go_enter Tryz.func153, Tryz.ntmps153
  go_wp2
  go_loopw [5] (fun i wr => ∃ k : Nat, i = .int .i64 k ∧ n + k ≤ l.length ∧ (∀ j x, n ≤ j → j < n + k → l[j]? = some x → rLetter x = true) ∧ wr = w) (fun i _ => l.length - (intOf i).toNat)
  case atStart => exact ⟨0, rfl, by omega, fun j x h1 h2 => by omega, by first | rfl | trivial⟩
  case round =>
    obtain ⟨k, rfl, hk, hall, rfl⟩ := hrel
    have Hall := Lib.hid hall
    clear hall
    by_cases hlt : n + k < l.length
    · obtain ⟨x, hx⟩ : ∃ x, l[n + k]? = some x := ⟨_, List.getElem?_eq_getElem hlt⟩
      have hc := Hb.out (n + k) x hx
      have Hx := Lib.hid hx
      clear hx
      have hli : (n : Int) + k < l.length := by omega
      cases hL : rLetter x with
      | true =>
        have HL := Lib.hid hL
        clear hL
        go_wp2_with (go_at_call 211; refine (rletter_any x _).mono ?_; rintro e w' ⟨rfl, rfl⟩; rw [HL.out])
        go_roundw
        case rel =>
          refine ⟨k + 1, by simp, by omega, fun j y h1 h2 h3 => ?_, by first | rfl | trivial⟩
          by_cases e : j = n + k
          · subst e
            rw [Hx.out] at h3
            cases h3
            exact HL.out
          · exact Hall.out j y h1 (by omega) h3
        case measure => simp [intOf]; omega
      | false =>
        have HL := Lib.hid hL
        clear hL
        have hW := (rWord_stop (n := n) (k := n + k) (by omega) hk Hall.out (fun y hy => by rw [Hx.out] at hy; cases hy; exact HL.out)).2
        have HW := Lib.hid hW
        clear hW
        go_wp2_with (go_at_call 211; refine (rletter_any x _).mono ?_; rintro e w' ⟨rfl, rfl⟩; rw [HL.out])
        go_ret
        exact ⟨ret_i (by rw [HW.out]; omega), rfl⟩
    · have hW := (rWord_stop (n := n) (k := n + k) (by omega) hk Hall.out (fun y hy => by rw [List.getElem?_eq_none (by omega)] at hy; cases hy)).2
      have HW := Lib.hid hW
      clear hW
      have hli : ¬ (n : Int) + k < l.length := by omega
      go_wp2
      go_ret
      exact ⟨ret_i (by rw [HW.out]; omega), rfl⟩

/-- digits without noughts ahead -/
def rNumeral (l : List UInt8) : Bool := l.all rDigit && (l.length == 1 || (decide (1 < l.length) && !(l.headD 0 == 48)))

set_option maxHeartbeats 1000000 in
set_option maxRecDepth 100000 in
theorem rnumeral_any (l : List UInt8) (w : World) (hl : l.length ≤ 9223372036854775806) :
    Calls Tryz.prog 156 #[.string ⟨l.toArray⟩] w fun e w' => e = .returned (.bool (rNumeral l)) ∧ w = w' := by
  obtain ⟨s, hs⟩ : ∃ s : ByteArray, s = ⟨l.toArray⟩ := ⟨_, rfl⟩
  rw [← hs]
  have hsz : s.size = l.length := by rw [hs]; simp [ByteArray.size]
  have hget : ∀ k (h : k < s.size), l[k]? = some (s[k]'h) := by
    intro k h
    have h2 : k < l.length := by omega
    rw [List.getElem?_eq_getElem h2]
    congr 1
    subst hs
    rfl
  have Hget := Lib.hid hget
  have Hsz := Lib.hid hsz
  have hle : (s.size : Int) ≤ 9223372036854775806 := by omega
  clear hget hsz hs hl
  go_enter Tryz.func156, Tryz.ntmps156
  go_wp2
  go_loopw [3] (fun i wr => ∃ k : Nat, i = .int .i64 k ∧ k ≤ s.size ∧ (∀ j x, j < k → l[j]? = some x → rDigit x = true) ∧ wr = w) (fun i _ => s.size - (intOf i).toNat)
  case atStart => exact ⟨0, rfl, by omega, fun j x h1 => by omega, by first | rfl | trivial⟩
  case round =>
    obtain ⟨k, rfl, hk, hall, rfl⟩ := hrel
    have Hall := Lib.hid hall
    clear hall
    by_cases hlt : k < s.size
    · have hx := Hget.out k hlt
      have Hx := Lib.hid hx
      clear hx
      cases hD : rDigit (s[k]'hlt) with
      | true =>
        have HD := Lib.hid hD
        clear hD
        go_wp2_with (go_at_call 155; refine (rdigit_any _ _).mono ?_; rintro e w' ⟨rfl, rfl⟩; rw [HD.out])
        go_roundw
        case rel =>
          refine ⟨k + 1, by simp, by omega, fun j y h2 h3 => ?_, by first | rfl | trivial⟩
          by_cases e : j = k
          · subst e
            rw [Hx.out] at h3
            cases h3
            exact HD.out
          · exact Hall.out j y (by omega) h3
        case measure => simp [intOf]; omega
      | false =>
        have hr : rNumeral l = false := by
          have : l.all rDigit = false := by
            rw [List.all_eq_false]
            exact ⟨_, List.mem_of_getElem? Hx.out, by simp [hD]⟩
          simp [rNumeral, this]
        have Hr := Lib.hid hr
        have HD := Lib.hid hD
        clear hD hr
        go_wp2_with (go_at_call 155; refine (rdigit_any _ _).mono ?_; rintro e w' ⟨rfl, rfl⟩; rw [HD.out])
        go_ret
        exact ⟨ret_b Hr.out.symm, rfl⟩
    · obtain rfl : k = s.size := by omega
      have ha : l.all rDigit = true := by
        rw [List.all_eq_true]
        intro x hx
        obtain ⟨j, hj⟩ := List.mem_iff_getElem?.1 hx
        have hj2 : j < l.length := (List.getElem?_eq_some_iff.1 hj).1
        exact Hall.out j x (by rw [Hsz.out]; exact hj2) hj
      by_cases h1 : s.size = 1
      · have hr : rNumeral l = true := by simp [rNumeral, ha, ← Hsz.out, h1]
        have Hr := Lib.hid hr
        have hb1 : ((s.size : Int) == 1) = true := by rw [beq_iff_eq]; omega
        clear hr ha h1
        go_wp2
        go_ret
        exact ⟨ret_b Hr.out.symm, rfl⟩
      · have hb1 : ((s.size : Int) == 1) = false := by rw [beq_eq_false_iff_ne]; omega
        by_cases h2 : 1 < s.size
        · have h0 : 0 < s.size := by omega
          have hx := Hget.out 0 h0
          have hh : l.headD 0 = s[0]'h0 := by
            cases l with
            | nil => simp at hx
            | cons a r => simp at hx; simpa using hx
          have hr : rNumeral l = !((s[0]'h0) == 48) := by
            have e1 : (s.size == 1) = false := by rw [beq_eq_false_iff_ne]; exact h1
            unfold rNumeral
            rw [ha, ← Hsz.out, e1, hh, decide_eq_true h2]
            rfl
          have Hr := Lib.hid hr
          have h2i : 1 < (s.size : Int) := by omega
          clear hr ha h1 hh hx
          go_wp2
          go_ret
          refine ⟨ret_b ?_, rfl⟩
          rw [Hr.out]
          by_cases e : s[0] = 48
          · rw [e]; rfl
          · have e2 : ¬ ((s[0]'h0).toNat = 48) := fun h => e (UInt8.toNat_inj.1 (by simpa using h))
            have e3 : ((s[0]'h0).toNat : Int) ≠ 48 := by omega
            have f1 : (((s[0]'h0).toNat : Int) != 48) = true := by rw [bne_iff_ne]; exact e3
            have f2 : ((s[0]'h0) == 48) = false := by rw [beq_eq_false_iff_ne]; exact e
            rw [f1, f2]; rfl
        · have hr : rNumeral l = false := by
            have e : l.length = 0 := by have := Hsz.out; omega
            simp [rNumeral, e]
          have Hr := Lib.hid hr
          have h2i : ¬ 1 < (s.size : Int) := by omega
          clear hr ha h1
          go_wp2
          go_ret
          exact ⟨ret_b Hr.out.symm, rfl⟩
end Go.Proofs.YtjdgfdpbiidldaaGreatDoor

namespace Go.Proofs.YtjdgfdpbiidldaaGreatDoor
open Go.RowKit

theorem rletter_tests : ∀ n, n < 256 → rLetter (UInt8.ofNat n) = true → n ∉ [40, 41, 124, 34, 58, 35, 59, 9, 10, 13, 32] := by decide +kernel
theorem rletter_tests' (x : UInt8) (h : rLetter x = true) : x.toNat ∉ [40, 41, 124, 34, 58, 35, 59, 9, 10, 13, 32] :=
  rletter_tests x.toNat (UInt8.toNat_lt x) (by rw [UInt8.ofNat_toNat]; exact h)
theorem int_ne {a : Nat} {b : Nat} (h : a ≠ b) : ((a : Int) == (b : Int)) = false := by rw [beq_eq_false_iff_ne]; omega

set_option maxHeartbeats 1000000 in
set_option maxRecDepth 100000 in
theorem one_open (g o cap : Nat) (l : List UInt8) (n : Nat) (w : World) (hb : BytesAt w g o l) (hg : g < w.heap.size) (hc : l[n]? = some 40) (_hl : l.length ≤ 9223372036854775806) :
    Calls Tryz.prog 76 #[.slice (some ⟨g, o, none⟩) l.length cap, .int .i64 n] w fun e w' => e = .returned (.tuple #[.agg #[.int .u8 1, .string ⟨#[40]⟩, .int .i64 n], .int .i64 1, .int .i64 0]) ∧ Below w.heap.size w w' := by
  have hn : n < l.length := (List.getElem?_eq_some_iff.1 hc).1
  have hcell := (hb.below ((Below.refl _ w).alloc (Nat.le_refl _) (.cells #[.int .u8 0, .string ⟨#[]⟩, .int .i64 0] 34)) hg) n 40 hc
  clear hb hc
  go_enter Tryz.func76, Tryz.ntmps76
  go_wp2
  refine bodyPost_ret (v := .tuple #[.agg #[.int .u8 1, .string ⟨#[40]⟩, .int .i64 n], .int .i64 1, .int .i64 0]) (by simp [results, Tryz.results76, go_sem]) rfl ⟨rfl, ?_⟩
  repeat (first | exact Below.refl _ _ | refine Below.alloc ?_ (by simp) _ | refine Below.setCell ?_ (by simp) _)

set_option maxHeartbeats 1000000 in
set_option maxRecDepth 100000 in
theorem one_close (g o cap : Nat) (l : List UInt8) (n : Nat) (w : World) (hb : BytesAt w g o l) (hg : g < w.heap.size) (hc : l[n]? = some 41) (_hl : l.length ≤ 9223372036854775806) :
    Calls Tryz.prog 76 #[.slice (some ⟨g, o, none⟩) l.length cap, .int .i64 n] w fun e w' => e = .returned (.tuple #[.agg #[.int .u8 2, .string ⟨#[41]⟩, .int .i64 n], .int .i64 1, .int .i64 0]) ∧ Below w.heap.size w w' := by
  have hn : n < l.length := (List.getElem?_eq_some_iff.1 hc).1
  have hcell := (hb.below ((Below.refl _ w).alloc (Nat.le_refl _) (.cells #[.int .u8 0, .string ⟨#[]⟩, .int .i64 0] 34)) hg) n 41 hc
  clear hb hc
  go_enter Tryz.func76, Tryz.ntmps76
  go_wp2
  refine bodyPost_ret (v := .tuple #[.agg #[.int .u8 2, .string ⟨#[41]⟩, .int .i64 n], .int .i64 1, .int .i64 0]) (by simp [results, Tryz.results76, go_sem]) rfl ⟨rfl, ?_⟩
  repeat (first | exact Below.refl _ _ | refine Below.alloc ?_ (by simp) _ | refine Below.setCell ?_ (by simp) _)

theorem conv_back {w : World} {g o n k : Nat} (c : Nat) {l : List UInt8} (hb : BytesAt w g o l) (hnk : n ≤ k) (hk : k ≤ l.length) :
    (convert 72 9 (.slice (some ⟨g, o + n, none⟩) (k - n) c)).run Tryz.prog w = .ok (.string ⟨((l.drop n).take (k - n)).toArray⟩) w := by
  have hlen : ((l.drop n).take (k - n)).length = k - n := by simp; omega
  have := run_convert_bytes_back (P := Tryz.prog) w 72 9 5 ⟨g, o + n, none⟩ c ((l.drop n).take (k - n)) Tryz.underlying72 Tryz.underlying5 Tryz.underlying9 (by
    intro j hj
    have hj2 : j < k - n := by omega
    have h1 : l[n + j]? = some ((l.drop n).take (k - n))[j] := by
      rw [← List.getElem?_eq_getElem hj, List.getElem?_take, if_pos hj2, List.getElem?_drop]
    have h2 := hb _ _ h1
    rw [← h2]
    unfold Addr.add
    split <;> simp_all [Nat.add_assoc])
  rw [hlen] at this
  exact this
theorem rWord_take {l : List UInt8} {n : Nat} : rWord l n = (l.drop n).take (rWord l n).length := by
  have h : rWord l n <+: l.drop n := List.takeWhile_prefix _
  exact (List.prefix_iff_eq_take.1 h)
theorem rWord_le {l : List UInt8} {n : Nat} (hn : n ≤ l.length) : n + (rWord l n).length ≤ l.length := by
  have h := (List.takeWhile_prefix rLetter (l := l.drop n)).length_le
  simp at h
  unfold rWord
  omega

set_option maxHeartbeats 2000000 in
set_option maxRecDepth 100000 in
theorem one_word3 (g o cap : Nat) (l : List UInt8) (n : Nat) (c : UInt8) (w : World) (hb : BytesAt w g o l) (hg : g < w.heap.size) (hc : l[n]? = some c) (hlet : rLetter c = true) (hd : rDigit c = false) (hl : l.length ≤ 9223372036854775806) (hcap : l.length ≤ cap) :
    Calls Tryz.prog 76 #[.slice (some ⟨g, o, none⟩) l.length cap, .int .i64 n] w fun e w' => e = .returned (.tuple #[.agg #[.int .u8 3, .string ⟨(rWord l n).toArray⟩, .int .i64 n], .int .i64 (rWord l n).length, .int .i64 0]) ∧ Below w.heap.size w w' := by
  have hn : n < l.length := (List.getElem?_eq_some_iff.1 hc).1
  have hx := rletter_tests' c hlet
  simp only [List.mem_cons, List.not_mem_nil, or_false, not_or] at hx
  obtain ⟨x1, x2, x3, x4, x5, x6, _⟩ := hx
  have y1 : ((c.toNat : Int) == 40) = false := by rw [beq_eq_false_iff_ne]; omega
  have y2 : ((c.toNat : Int) == 41) = false := by rw [beq_eq_false_iff_ne]; omega
  have y3 : ((c.toNat : Int) == 124) = false := by rw [beq_eq_false_iff_ne]; omega
  have y4 : ((c.toNat : Int) == 34) = false := by rw [beq_eq_false_iff_ne]; omega
  have y5 : ((c.toNat : Int) == 58) = false := by rw [beq_eq_false_iff_ne]; omega
  have y6 : ((c.toNat : Int) == 35) = false := by rw [beq_eq_false_iff_ne]; omega
  have hb1 := hb.below ((Below.refl _ w).alloc (Nat.le_refl _) (.cells #[.int .u8 0, .string ⟨#[]⟩, .int .i64 0] 34)) hg
  have hcell := hb1 n c hc
  have hb2 := hb.below (((Below.refl _ w).alloc (Nat.le_refl _) (.cells #[.int .u8 0, .string ⟨#[]⟩, .int .i64 0] 34)).alloc (by simp) (.cells #[.int .u8 0, .string ⟨#[]⟩, .int .i64 n] 34)) hg
  have hle := rWord_le (Nat.le_of_lt hn)
  have hpos : 0 < (rWord l n).length := by
    have : rWord l n = c :: (l.drop (n + 1)).takeWhile rLetter := by
      unfold rWord
      rw [List.drop_eq_getElem_cons hn]
      have : l[n] = c := by have := List.getElem?_eq_some_iff.1 hc; exact this.2
      rw [this, List.takeWhile_cons, hlet]; rfl
    rw [this]; simp
  obtain ⟨m, hm⟩ : ∃ m, m = (rWord l n).length := ⟨_, rfl⟩
  have hconv := conv_back (cap - n) hb2 (Nat.le_add_right n m) (by omega)
  rw [Nat.add_sub_cancel_left] at hconv
  have htk : (l.drop n).take m = rWord l n := by rw [hm]; exact rWord_take.symm
  rw [htk] at hconv
  have hword := rword_any g o cap l n _ hb2 (Nat.le_of_lt hn) hl
  rw [← hm] at hword ⊢
  have hmpos : 0 < m := by omega
  have hnm : n + m ≤ l.length := by omega
  have hmz : ((m : Int) == 0) = false := by rw [beq_eq_false_iff_ne]; omega
  have Hword := Lib.hid hword
  have Hd := Lib.hid hd
  clear hb hc hm htk hle hpos hb1 hb2 hword hd x1 x2 x3 x4 x5 x6 hlet
  have hnmi : (n : Int) + m ≤ 9223372036854775806 := by omega
  have hcapi : n + m ≤ cap := by omega
  clear hl
  go_enter Tryz.func76, Tryz.ntmps76
  go_wp2_with (first | (go_at_call 153; refine Hword.out.mono ?_; rintro e w' ⟨rfl, rfl⟩) | (go_at_call 155; refine (rdigit_any c _).mono ?_; rintro e w' ⟨rfl, rfl⟩; rw [Hd.out]))
  refine bodyPost_ret (v := .tuple #[.agg #[.int .u8 3, .string ⟨(rWord l n).toArray⟩, .int .i64 n], .int .i64 m, .int .i64 0]) (by simp [results, Tryz.results76, go_sem]) rfl ⟨rfl, ?_⟩
  repeat (first | exact Below.refl _ _ | refine Below.alloc ?_ (by simp) _ | refine Below.setCell ?_ (by simp) _)

set_option maxHeartbeats 2000000 in
set_option maxRecDepth 100000 in
theorem one_word4 (g o cap : Nat) (l : List UInt8) (n : Nat) (c : UInt8) (w : World) (hb : BytesAt w g o l) (hg : g < w.heap.size) (hc : l[n]? = some c) (hlet : rLetter c = true) (hd : rDigit c = true) (hnum : rNumeral (rWord l n) = true) (hl : l.length ≤ 9223372036854775806) (hcap : l.length ≤ cap) :
    Calls Tryz.prog 76 #[.slice (some ⟨g, o, none⟩) l.length cap, .int .i64 n] w fun e w' => e = .returned (.tuple #[.agg #[.int .u8 4, .string ⟨(rWord l n).toArray⟩, .int .i64 n], .int .i64 (rWord l n).length, .int .i64 0]) ∧ Below w.heap.size w w' := by
  have hn : n < l.length := (List.getElem?_eq_some_iff.1 hc).1
  have hx := rletter_tests' c hlet
  simp only [List.mem_cons, List.not_mem_nil, or_false, not_or] at hx
  obtain ⟨x1, x2, x3, x4, x5, x6, _⟩ := hx
  have y1 : ((c.toNat : Int) == 40) = false := by rw [beq_eq_false_iff_ne]; omega
  have y2 : ((c.toNat : Int) == 41) = false := by rw [beq_eq_false_iff_ne]; omega
  have y3 : ((c.toNat : Int) == 124) = false := by rw [beq_eq_false_iff_ne]; omega
  have y4 : ((c.toNat : Int) == 34) = false := by rw [beq_eq_false_iff_ne]; omega
  have y5 : ((c.toNat : Int) == 58) = false := by rw [beq_eq_false_iff_ne]; omega
  have y6 : ((c.toNat : Int) == 35) = false := by rw [beq_eq_false_iff_ne]; omega
  have hb1 := hb.below ((Below.refl _ w).alloc (Nat.le_refl _) (.cells #[.int .u8 0, .string ⟨#[]⟩, .int .i64 0] 34)) hg
  have hcell := hb1 n c hc
  have hb2 := hb.below (((Below.refl _ w).alloc (Nat.le_refl _) (.cells #[.int .u8 0, .string ⟨#[]⟩, .int .i64 0] 34)).alloc (by simp) (.cells #[.int .u8 0, .string ⟨#[]⟩, .int .i64 n] 34)) hg
  have hle := rWord_le (Nat.le_of_lt hn)
  have hpos : 0 < (rWord l n).length := by
    have : rWord l n = c :: (l.drop (n + 1)).takeWhile rLetter := by
      unfold rWord
      rw [List.drop_eq_getElem_cons hn]
      have : l[n] = c := by have := List.getElem?_eq_some_iff.1 hc; exact this.2
      rw [this, List.takeWhile_cons, hlet]; rfl
    rw [this]; simp
  obtain ⟨m, hm⟩ : ∃ m, m = (rWord l n).length := ⟨_, rfl⟩
  have hconv := conv_back (cap - n) hb2 (Nat.le_add_right n m) (by omega)
  rw [Nat.add_sub_cancel_left] at hconv
  have htk : (l.drop n).take m = rWord l n := by rw [hm]; exact rWord_take.symm
  rw [htk] at hconv
  have hword := rword_any g o cap l n _ hb2 (Nat.le_of_lt hn) hl
  rw [← hm] at hword ⊢
  have hmpos : 0 < m := by omega
  have hnm : n + m ≤ l.length := by omega
  have hmz : ((m : Int) == 0) = false := by rw [beq_eq_false_iff_ne]; omega
  have Hword := Lib.hid hword
  have Hd := Lib.hid hd
  have Hnum := Lib.hid hnum
  have hnm := fun w => rnumeral_any (rWord l n) w (by omega)
  have Hnm := Lib.hid hnm
  clear hb hc hm htk hle hpos hb1 hb2 hword hd hnum hnm x1 x2 x3 x4 x5 x6 hlet
  have hnmi : (n : Int) + m ≤ 9223372036854775806 := by omega
  have hcapi : n + m ≤ cap := by omega
  clear hl
  go_enter Tryz.func76, Tryz.ntmps76
  go_wp2_with (first | (go_at_call 153; refine Hword.out.mono ?_; rintro e w' ⟨rfl, rfl⟩) | (go_at_call 155; refine (rdigit_any c _).mono ?_; rintro e w' ⟨rfl, rfl⟩; rw [Hd.out]) | (go_at_call 156; refine (Hnm.out _).mono ?_; rintro e w' ⟨rfl, rfl⟩; rw [Hnum.out]))
  refine bodyPost_ret (v := .tuple #[.agg #[.int .u8 4, .string ⟨(rWord l n).toArray⟩, .int .i64 n], .int .i64 m, .int .i64 0]) (by simp [results, Tryz.results76, go_sem]) rfl ⟨rfl, ?_⟩
  repeat (first | exact Below.refl _ _ | refine Below.alloc ?_ (by simp) _ | refine Below.setCell ?_ (by simp) _)
end Go.Proofs.YtjdgfdpbiidldaaGreatDoor

namespace Go.Proofs.YtjdgfdpbiidldaaGreatDoor
open Go.RowKit

/-- a text ahead of its first point, and behind it, and whether it has one -/
def cutDot (s : ByteArray) : ByteArray × ByteArray × Bool :=
  if 0 ≤ Lib.indexByte s.data.toList 46 then (s.extract 0 (Lib.indexByte s.data.toList 46).toNat, s.extract ((Lib.indexByte s.data.toList 46).toNat + 1) s.size, true) else (s, ⟨#[]⟩, false)

theorem index_lt (s : ByteArray) (c : UInt8) (X : Int) (h : Lib.indexByte s.data.toList c = X) (h0 : 0 ≤ X) : X < s.size := by
  obtain ⟨n, rfl⟩ : ∃ n : Nat, X = n := ⟨X.toNat, by omega⟩
  have h1 := (Lib.indexByte_some h).1
  have h2 := (List.getElem?_eq_some_iff.1 h1).1
  have : s.data.toList.length = s.size := Array.length_toList
  omega

set_option maxHeartbeats 1000000 in
set_option maxRecDepth 100000 in
theorem cut_dot_lite (s : ByteArray) (w : World) (hs : s.size ≤ 9223372036854775806) :
    Calls Tryz.prog 382 #[.string s, .string ⟨#[46]⟩] w fun e w' => e = .returned (.tuple #[.string (cutDot s).1, .string (cutDot s).2.1, .bool (cutDot s).2.2]) ∧ ∃ n, w' = w.drewN n := by
  have hi := fun w => Tryz.stringslite_Index_one s 46 w
  obtain ⟨X, hX⟩ : ∃ X, Lib.indexByte s.data.toList 46 = X := ⟨_, rfl⟩
  have hlt := index_lt s 46 X hX
  simp only [hX] at hi
  have Hi := Lib.hid hi
  clear hi
  unfold cutDot
  rw [hX]
  clear hX
  by_cases h0 : 0 ≤ X
  · have hl := hlt h0
    clear hlt
    have q0 : decide (0 ≤ X) = true := by simpa using h0
    have hw : wrap64 (X + 1) = X + 1 := by unfold wrap64; omega
    have e1 : (X + 1).toNat = X.toNat + 1 := by omega
    have hs2 : X + 1 ≤ s.size := by omega
    have E1 := Lib.hid e1
    clear hs e1
    rw [if_pos h0]
    go_enter Tryz.func382, Tryz.ntmps382
    go_wp2_with (first | (go_at_call 378; refine (Hi.out _).mono ?_; rintro e w' ⟨rfl, rfl⟩))
    go_quiet (fail)
    go_wp2
    go_ret3
    refine ⟨?_, nq, rfl⟩
    rw [E1.out]
    rfl
  · have q0 : decide (0 ≤ X) = false := by simpa using h0
    rw [if_neg h0]
    clear hlt hs
    go_enter Tryz.func382, Tryz.ntmps382
    go_wp2_with (first | (go_at_call 378; refine (Hi.out _).mono ?_; rintro e w' ⟨rfl, rfl⟩))
    go_ret3
    exact ⟨rfl, 0, rfl⟩

set_option maxHeartbeats 1000000 in
set_option maxRecDepth 100000 in
theorem cut_dot (s : ByteArray) (w : World) (hs : s.size ≤ 9223372036854775806) :
    Calls Tryz.prog 336 #[.string s, .string ⟨#[46]⟩] w fun e w' => e = .returned (.tuple #[.string (cutDot s).1, .string (cutDot s).2.1, .bool (cutDot s).2.2]) ∧ ∃ n, w' = w.drewN n := by
  have H := Lib.hid hs
  clear hs
  go_enter Tryz.func336, Tryz.ntmps336
  go_wp2_with (first | (go_at_call 382; refine (cut_dot_lite s _ H.out).mono ?_; rintro e w' ⟨rfl, n, rfl⟩))
  go_ret3
  exact ⟨rfl, n, rfl⟩

/-- is a text digits, without noughts ahead? -/
def numB (s : ByteArray) : Bool := allB 2 s.toList && (!(s.toList.headD 0 == 48) || s.toList == [48])

set_option maxHeartbeats 1000000 in
set_option maxRecDepth 100000 in
theorem numeral_any (R : Nat) (s : ByteArray) (w : World) (hs : s.size ≤ 9223372036854775806) (hcls : ∀ j, j < 256 → w.cell? ⟨R, j, none⟩ = some (.int .u8 (cls j))) :
    Calls Tryz.prog 337 #[.pointer (some ⟨R, 0, none⟩), .string s] w fun e w' => e = .returned (.bool (numB s)) ∧ ∃ n, w' = w.drewN n := by
  have ha := all_any R s 2 w hs hcls
  cases hA : allB 2 s.toList with
  | false =>
    rw [hA] at ha
    have Ha := Lib.hid ha
    clear ha hcls hs
    have hn : numB s = false := by simp [numB, hA]
    rw [hn]
    clear hn hA
    go_enter Tryz.func337, Tryz.ntmps337
    go_wp2_with (first | (go_at_call 255; refine Ha.out.mono ?_; rintro e w' ⟨rfl, n, rfl⟩))
    go_ret
    exact ⟨rfl, n, rfl⟩
  | true =>
    rw [hA] at ha
    have hpos : 0 < s.size := by
      have h : s.toList ≠ [] := by intro h; rw [h] at hA; simp [allB] at hA
      have := toList_length s
      have h3 : 0 < s.toList.length := List.length_pos_iff.2 h
      omega
    have hx := toList_get s 0 hpos
    have hn : numB s = (!(((s[0].toNat : Nat) : Int) == 48) || s.toList == [48]) := by
      have e : s.toList.headD 0 = s[0] := by cases hl : s.toList with
        | nil => rw [hl] at hx; simp at hx
        | cons x l => rw [hl] at hx; simpa using hx
      have e2 : (s[0] == (48 : UInt8)) = (((s[0].toNat : Nat) : Int) == 48) := by
        rw [Bool.eq_iff_iff]
        simp only [beq_iff_eq]
        constructor
        · intro h; rw [h]; rfl
        · intro h; apply UInt8.toNat_inj.1; have : s[0].toNat = 48 := by omega
          rw [this]; rfl
      rw [numB, hA, e, e2]; rfl
    have Ha := Lib.hid ha
    clear ha hcls hs hx hA
    have Hn := Lib.hid hn
    clear hn
    cases h48 : (((s[0].toNat : Nat) : Int) == 48) with
    | false =>
      have h48b : (((s[0].toNat : Nat) : Int) != 48) = true := by simp [bne, h48]
      have hn : numB s = true := by rw [Hn.out, h48]; rfl
      rw [hn]
      clear hn
      go_enter Tryz.func337, Tryz.ntmps337
      go_wp2_with (first | (go_at_call 255; refine Ha.out.mono ?_; rintro e w' ⟨rfl, n, rfl⟩))
      go_ret
      exact ⟨rfl, n, rfl⟩
    | true =>
      have h48b : (((s[0].toNat : Nat) : Int) != 48) = false := by simp [bne, h48]
      have hn : numB s = (s.toList == [48]) := by rw [Hn.out, h48]; rfl
      rw [hn]
      clear hn
      go_enter Tryz.func337, Tryz.ntmps337
      go_wp2_with (first | (go_at_call 255; refine Ha.out.mono ?_; rintro e w' ⟨rfl, n, rfl⟩))
      go_ret
      exact ⟨rfl, n, rfl⟩
end Go.Proofs.YtjdgfdpbiidldaaGreatDoor
