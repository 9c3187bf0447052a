/-
  Layer 3 (lex): the classes of bytes. No condition.
-/
import Derived.Test.YtjdgfdpbiidldaaGreatDoorFr
import Derived.Test.YtjdgfdpbiidldaaGreatDoorShelf
import Derived.Deep.DeepCutAuto
namespace Go.Proofs.YtjdgfdpbiidldaaGreatDoor
open Go.RowKit

def specials : List UInt8 := [126, 33, 64, 36, 37, 94, 38, 42, 95, 45, 43, 61, 60, 62, 46, 63, 47]
/-- what a byte may be, but for what may stand within marks -/
def cls0 (c : Nat) : Int :=
  if 48 ≤ c ∧ c ≤ 57 then 3 else if (97 ≤ c ∧ c ≤ 122) ∨ (65 ≤ c ∧ c ≤ 90) ∨ 0 ≤ Lib.indexByte specials c.toUInt8 then 1
  else if c = 9 ∨ c = 10 ∨ c = 13 ∨ c = 32 then 4 else 0
def cls (c : Nat) : Int := if cls0 c = 4 ∨ (32 < c ∧ c ≠ 127) then cls0 c + 8 else cls0 c

def clsCells : Array Value := (Array.range 256).map fun c => .int .u8 (cls c)
theorem clsCells_at (c : Nat) (h : c < 256) : clsCells[c]? = some (.int .u8 (cls c)) := by simp [clsCells, h]

theorem zero379' : Tryz.zeroCells379 = (Array.range 256).map fun _ => Value.int .u8 0 := by kernel_rfl
theorem zero379 (c : Nat) (hc : c < 256) : Tryz.zeroCells379[c]? = some (.int .u8 0) := by rw [zero379']; simp [hc]
theorem size379 : Tryz.zeroCells379.size = 256 := by rw [zero379']; simp

theorem not_special : ∀ c, c < 256 → c ≠ 0 → ((0 ≤ Lib.indexByte specials c.toUInt8) ↔ c ∈ [126, 33, 64, 36, 37, 94, 38, 42, 95, 45, 43, 61, 60, 62, 46, 63, 47]) := by decide +kernel
theorem zero_special : ¬ 0 ≤ Lib.indexByte specials (0 : Nat).toUInt8 := by decide +kernel

theorem or8_3 : bits BinOp.or IntKind.u8 3 8 = 11 := by decide +kernel
theorem or8_1 : bits BinOp.or IntKind.u8 1 8 = 9 := by decide +kernel
theorem or8_4 : bits BinOp.or IntKind.u8 4 8 = 12 := by decide +kernel
theorem or8_0 : bits BinOp.or IntKind.u8 0 8 = 8 := by decide +kernel

theorem set_same_at {cs : Array Value} {k : Nat} {v : Value} (h : k < cs.size) (j : Nat) : (cs.setIfInBounds k v)[j]? = if j = k then some v else cs[j]? := by
  rw [Array.getElem?_setIfInBounds]
  by_cases e : j = k
  · subst e; simp [h]
  · simp [e, Ne.symm e]

set_option maxHeartbeats 4000000 in
set_option maxRecDepth 100000 in
theorem classes_any (w : World) : Calls Tryz.prog 254 #[] w fun e w' => e = .returned (.agg clsCells) ∧ Below w.heap.size w w' := by
  have hpow : (0 : Int) ≤ 0 := by omega
  go_enter Tryz.func254, Tryz.ntmps254
  go_wp2
  go_loopw [1, 2, 3] (fun _ _ i wr => ∃ k : Nat, k ≤ 256 ∧ i = .int .i64 k ∧ Below w.heap.size w wr ∧ ∃ cs : Array Value, wr.heap[w.heap.size]? = some (.cells cs 379 (0, 0)) ∧ cs.size = 256 ∧ (∀ j, j < k → cs[j]? = some (.int .u8 (cls j))) ∧ (∀ j, k ≤ j → j < 256 → cs[j]? = some (.int .u8 0)))
    (fun _ _ i _ => 256 - (intOf i).toNat)
  case atStart => exact ⟨0, by omega, rfl, (Below.refl _ w).alloc (Nat.le_refl _) _, Tryz.zeroCells379, heap_alloc_new w _, size379, fun j hj => by omega, fun j _ hj => zero379 j hj⟩
  case round =>
    obtain ⟨k, hk, rfl, hbel, cs, hb, hsz, hlo, hhi⟩ := hrel
    by_cases hlt : k < 256
    · have hck : cs[k]? = some (.int .u8 0) := hhi k (Nat.le_refl _) hlt
      have hcell : wr.cell? ⟨w.heap.size, k, none⟩ = some (.int .u8 0) := by rw [Lib.cell_of_heap hb]; exact hck
      have hfz : ∀ o, wr.frozen? ⟨w.heap.size, o, none⟩ = false := fun o => Lib.frozen_of_heap hb o
      have Hlo := Lib.hid hlo
      have Hhi := Lib.hid hhi
      have Hb := Lib.hid hb
      have Hsz := Lib.hid hsz
      clear hlo hhi hb hsz hck
      have fin : ∀ (W : World) (cs2 : Array Value), W.heap[w.heap.size]? = some (.cells cs2 379 (0, 0)) → Below w.heap.size w W → cs2.size = 256 → (∀ j, cs2[j]? = if j = k then some (.int .u8 (cls k)) else cs[j]?) →
          ∃ k2 : Nat, k2 ≤ 256 ∧ Value.int .i64 (↑k + 1) = .int .i64 k2 ∧ Below w.heap.size w W ∧ ∃ cs : Array Value, W.heap[w.heap.size]? = some (.cells cs 379 (0, 0)) ∧ cs.size = 256 ∧ (∀ j, j < k2 → cs[j]? = some (.int .u8 (cls j))) ∧ (∀ j, k2 ≤ j → j < 256 → cs[j]? = some (.int .u8 0)) := by
        intro W cs2 h1 h2 h3 h4
        refine ⟨k + 1, by omega, by simp, h2, cs2, h1, h3, fun j hj => ?_, fun j hj hj2 => ?_⟩
        · rw [h4]
          split
          · rename_i e; rw [e]
          · exact Hlo.out j (by omega)
        · rw [h4, if_neg (by omega)]; exact Hhi.out j (by omega) hj2
      have Fin := Lib.hid fin
      clear fin
      have two : ∀ (v1 v2 : Value) (j : Nat), ((cs.setIfInBounds k v1).setIfInBounds k v2)[j]? = if j = k then some v2 else cs[j]? := by
        intro v1 v2 j
        rw [set_same_at (by simp [Hsz.out]; omega), set_same_at (by rw [Hsz.out]; omega)]
        split <;> rfl
      have Two := Lib.hid two
      clear two
      rcases (show (48 ≤ k ∧ k ≤ 57) ∨ (97 ≤ k ∧ k ≤ 122) ∨ (65 ≤ k ∧ k ≤ 90) ∨ (¬ (48 ≤ k ∧ k ≤ 57) ∧ ¬ (97 ≤ k ∧ k ≤ 122) ∧ ¬ (65 ≤ k ∧ k ≤ 90)) by omega) with h | h | h | h
      · obtain ⟨h1, h2⟩ := h
        have hc : cls k = 11 := by simp [cls, cls0, h1, h2]; omega
        have Hc := Lib.hid hc
        clear hc
        go_wp2
        go_roundw
        case rel =>
          refine Fin.out _ _ (heap_set_at (heap_set_at Hb.out _ _) _ _) ((hbel.setCell (p := ⟨w.heap.size, _, none⟩) (Nat.le_refl _) _).setCell (p := ⟨w.heap.size, _, none⟩) (Nat.le_refl _) _) (by simp [Hsz.out]) (fun j => ?_)
          rw [Two.out, or8_3, Hc.out]
        case measure => simp [intOf]; omega
      · obtain ⟨h1, h2⟩ := h
        have hc : cls k = 9 := by
          have g1 : ¬ (48 ≤ k ∧ k ≤ 57) := by omega
          have g2 : (97 ≤ k ∧ k ≤ 122) ∨ (65 ≤ k ∧ k ≤ 90) ∨ 0 ≤ Lib.indexByte specials k.toUInt8 := by omega
          have g3 : cls0 k = 1 := by unfold cls0; rw [if_neg g1, if_pos g2]
          unfold cls; rw [g3, if_pos (by omega)]; rfl
        have Hc := Lib.hid hc
        clear hc
        go_wp2
        go_roundw
        case rel =>
          refine Fin.out _ _ (heap_set_at (heap_set_at Hb.out _ _) _ _) ((hbel.setCell (p := ⟨w.heap.size, _, none⟩) (Nat.le_refl _) _).setCell (p := ⟨w.heap.size, _, none⟩) (Nat.le_refl _) _) (by simp [Hsz.out]) (fun j => ?_)
          rw [Two.out, or8_1, Hc.out]
        case measure => simp [intOf]; omega
      · obtain ⟨h1, h2⟩ := h
        have hc : cls k = 9 := by
          have g1 : ¬ (48 ≤ k ∧ k ≤ 57) := by omega
          have g2 : (97 ≤ k ∧ k ≤ 122) ∨ (65 ≤ k ∧ k ≤ 90) ∨ 0 ≤ Lib.indexByte specials k.toUInt8 := by omega
          have g3 : cls0 k = 1 := by unfold cls0; rw [if_neg g1, if_pos g2]
          unfold cls; rw [g3, if_pos (by omega)]; rfl
        have Hc := Lib.hid hc
        clear hc
        go_wp2
        go_roundw
        case rel =>
          refine Fin.out _ _ (heap_set_at (heap_set_at Hb.out _ _) _ _) ((hbel.setCell (p := ⟨w.heap.size, _, none⟩) (Nat.le_refl _) _).setCell (p := ⟨w.heap.size, _, none⟩) (Nat.le_refl _) _) (by simp [Hsz.out]) (fun j => ?_)
          rw [Two.out, or8_1, Hc.out]
        case measure => simp [intOf]; omega
      · obtain ⟨h1, h2, h3⟩ := h
        obtain ⟨X, hX⟩ : ∃ X, X = Lib.indexByte specials k.toUInt8 := ⟨_, rfl⟩
        have h329 : ∀ w, Calls Tryz.prog 329 #[.string ⟨#[126, 33, 64, 36, 37, 94, 38, 42, 95, 45, 43, 61, 60, 62, 46, 63, 47]⟩, .int .u8 k] w fun e w' => e = .returned (.int .i64 X) ∧ w = w' := fun w => by
          refine (Tryz.strings_IndexByte ⟨#[126, 33, 64, 36, 37, 94, 38, 42, 95, 45, 43, 61, 60, 62, 46, 63, 47]⟩ k w).mono ?_
          rintro e w' ⟨he, hw⟩
          exact ⟨by rw [he, hX]; rfl, hw.symm⟩
        have H329 := Lib.hid h329
        clear h329
        have g1 : ¬ (48 ≤ k ∧ k ≤ 57) := by omega
        have hcc : cls0 k = if 0 ≤ X then 1 else if k = 9 ∨ k = 10 ∨ k = 13 ∨ k = 32 then 4 else 0 := by
          unfold cls0
          rw [if_neg g1, ← hX]
          by_cases hX0 : 0 ≤ X
          · rw [if_pos (by omega), if_pos hX0]
          · rw [if_neg (by omega), if_neg hX0]
        have hsp : k ≠ 0 → (0 ≤ X ↔ k ∈ [126, 33, 64, 36, 37, 94, 38, 42, 95, 45, 43, 61, 60, 62, 46, 63, 47]) := fun h0 => by rw [hX]; exact not_special k hlt h0
        have hs0 : k = 0 → ¬ 0 ≤ X := fun h0 => by rw [hX, h0]; exact zero_special
        have Hcc := Lib.hid hcc
        have Hsp := Lib.hid hsp
        clear hcc hsp hX
        by_cases hX0 : 0 ≤ X
        · have hk0 : k ≠ 0 := fun e => hs0 e hX0
          have hmem := (Hsp.out hk0).1 hX0
          have h32 : 32 < k ∧ k ≠ 127 := by simp at hmem; omega
          have hc : cls k = 9 := by unfold cls; rw [Hcc.out, if_pos hX0, if_pos (.inr h32)]; rfl
          have Hc := Lib.hid hc
          obtain ⟨q1, q2⟩ := h32
          have q0 : 0 < k := by omega
          have q3 : ((k : Int) != 0) = true := by simp; omega
          have q4 : decide (0 ≤ X) = true := by simpa using hX0
          clear hc hmem hs0 hk0
          go_wp2_with (first | (go_at_call 329; refine (H329.out _).mono ?_; rintro e w' ⟨rfl, rfl⟩))
          all_goals
            go_roundw
            case rel =>
              refine Fin.out _ _ (heap_set_at (heap_set_at Hb.out _ _) _ _) ((hbel.setCell (p := ⟨w.heap.size, _, none⟩) (Nat.le_refl _) _).setCell (p := ⟨w.heap.size, _, none⟩) (Nat.le_refl _) _) (by simp [Hsz.out]) (fun j => ?_)
              rw [Two.out, or8_1, Hc.out]
            case measure => simp [intOf]; omega
        · have q4 : decide (0 ≤ X) = false := by simpa using hX0
          by_cases hk0 : k = 0
          · subst hk0
            have hc : cls 0 = 0 := by unfold cls; rw [Hcc.out, if_neg hX0, if_neg (by omega), if_neg (by omega)]
            have Hc := Lib.hid hc
            clear hc hs0
            go_wp2
            all_goals
              go_roundw
              case rel =>
                refine Fin.out _ _ Hb.out hbel Hsz.out (fun j => ?_)
                by_cases e : j = 0
                · rw [if_pos e, e, Hc.out]; exact Hhi.out 0 (Nat.le_refl _) hlt
                · rw [if_neg e]
              case measure => first | (simp [intOf]; done) | (simp [intOf]; omega)
          have q0 : 0 < k := by omega
          have q3 : ((k : Int) != 0) = true := by simp; omega
          by_cases hbl : k = 9 ∨ k = 10 ∨ k = 13 ∨ k = 32
          · have hc : cls k = 12 := by unfold cls; rw [Hcc.out, if_neg hX0, if_pos hbl, if_pos (.inl rfl)]; rfl
            have Hc := Lib.hid hc
            clear hc hs0 hk0
            rcases hbl with rfl | rfl | rfl | rfl
            all_goals
              go_wp2_with (first | (go_at_call 329; refine (H329.out _).mono ?_; rintro e w' ⟨rfl, rfl⟩))
              all_goals
                go_roundw
                case rel =>
                  refine Fin.out _ _ (heap_set_at (heap_set_at Hb.out _ _) _ _) ((hbel.setCell (p := ⟨w.heap.size, _, none⟩) (Nat.le_refl _) _).setCell (p := ⟨w.heap.size, _, none⟩) (Nat.le_refl _) _) (by simp [Hsz.out]) (fun j => ?_)
                  rw [Two.out, or8_4, Hc.out]
                case measure => first | (simp [intOf]; done) | (simp [intOf]; omega)
          have hcl : cls0 k = 0 := by rw [Hcc.out, if_neg hX0, if_neg hbl]
          have n9 : ((k : Int) == 9) = false := by simp; omega
          have n10 : ((k : Int) == 10) = false := by simp; omega
          have n13 : ((k : Int) == 13) = false := by simp; omega
          have n32 : ((k : Int) == 32) = false := by simp; omega
          by_cases h32 : 32 < k
          · by_cases h127 : k = 127
            · subst h127
              have hc : cls 127 = 0 := by unfold cls; rw [hcl, if_neg (by omega)]
              have Hc := Lib.hid hc
              clear hc hs0 hk0 hbl hcl
              go_wp2_with (first | (go_at_call 329; refine (H329.out _).mono ?_; rintro e w' ⟨rfl, rfl⟩))
              all_goals
                go_roundw
                case rel =>
                  refine Fin.out _ _ Hb.out hbel Hsz.out (fun j => ?_)
                  by_cases e : j = 127
                  · rw [if_pos e, e, Hc.out]; exact Hhi.out 127 (Nat.le_refl _) hlt
                  · rw [if_neg e]
                case measure => first | (simp [intOf]; done) | (simp [intOf]; omega)
            · have hc : cls k = 8 := by unfold cls; rw [hcl, if_pos (.inr ⟨h32, h127⟩)]; rfl
              have Hc := Lib.hid hc
              have n127 : ((k : Int) != 127) = true := by simp; omega
              clear hc hs0 hk0 hbl hcl h127
              go_wp2_with (first | (go_at_call 329; refine (H329.out _).mono ?_; rintro e w' ⟨rfl, rfl⟩))
              all_goals
                go_roundw
                case rel =>
                  refine Fin.out _ _ (heap_set_at Hb.out _ _) (hbel.setCell (p := ⟨w.heap.size, _, none⟩) (Nat.le_refl _) _) (by simp [Hsz.out]) (fun j => ?_)
                  rw [set_same_at (by rw [Hsz.out]; omega), or8_0, Hc.out]
                case measure => first | (simp [intOf]; done) | (simp [intOf]; omega)
          · have hc : cls k = 0 := by unfold cls; rw [hcl, if_neg (by omega)]
            have Hc := Lib.hid hc
            clear hc hs0 hk0 hbl hcl
            go_wp2_with (first | (go_at_call 329; refine (H329.out _).mono ?_; rintro e w' ⟨rfl, rfl⟩))
            all_goals
              go_roundw
              case rel =>
                refine Fin.out _ _ Hb.out hbel Hsz.out (fun j => ?_)
                by_cases e : j = k
                · rw [if_pos e, e, Hc.out]; exact Hhi.out k (Nat.le_refl _) hlt
                · rw [if_neg e]
              case measure => first | (simp [intOf]; done) | (simp [intOf]; omega)
    · obtain rfl : k = 256 := by omega
      have hcs : cs = clsCells := by
        apply Array.ext_getElem?
        intro j
        by_cases hj : j < 256
        · rw [hlo j hj, clsCells_at j hj]
        · rw [Array.getElem?_eq_none (by omega), Array.getElem?_eq_none (by simp [clsCells]; omega)]
      subst hcs
      have hi379 : (Tryz.prog.info? 379).map (·.size) = some clsCells.size := by rw [show clsCells.size = 256 by simp [clsCells]]; kernel_rfl
      have hone : clsCells.all (·.oneCell') = true := by
        rw [Array.all_eq_true_iff_forall_mem]
        intro x hx
        obtain ⟨c, _, rfl⟩ := Array.mem_map.1 hx
        rfl
      have Hlo := Lib.hid hlo
      clear hlo hhi hsz hlt hk
      go_wp2_with (first | (refine wpList_load_row rfl 379 _ rfl w.heap.size rfl 379 clsCells (0, 0) _ hb Tryz.underlying379 rfl hi379 ?_) | (refine wpList_store_row rfl 379 _ _ rfl w.heap.size clsCells rfl rfl 379 clsCells hb hi379 rfl hone ?_))
      refine bodyPost_ret (results_cell_row rfl _ _ w.heap.size 379 clsCells (0, 0) _ rfl (setRow_heap wr w.heap.size clsCells clsCells 379 (0, 0) hb) Tryz.underlying379 rfl hi379) rfl ⟨rfl, ?_⟩
      exact hbel.trans ⟨rfl, rfl, rfl, by simp [World.setRow], fun k hk => setRow_other wr w.heap.size k clsCells (by omega)⟩
end Go.Proofs.YtjdgfdpbiidldaaGreatDoor
