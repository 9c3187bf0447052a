/-
  Layer 3 (lex): all, Plain. No condition but the text's own size.
-/
import Derived.Test.YtjdgfdpbiidldaaGreatDoorLx1
namespace Go.Proofs.YtjdgfdpbiidldaaGreatDoor
open Go.RowKit

/-- is a byte of a class? -/
def isC (c : Int) (x : UInt8) : Bool := bits BinOp.and IntKind.u8 (cls x.toNat) c != 0
def allB (c : Int) (l : List UInt8) : Bool := !l.isEmpty && l.all (isC c)

theorem toList_get (s : ByteArray) (k : Nat) (h : k < s.size) : s.toList[k]? = some (s[k]'h) := by
  rw [ByteArray.toList_eq, Array.getElem?_toList]
  exact Array.getElem?_eq_getElem h
theorem toList_length (s : ByteArray) : s.toList.length = s.size := by rw [ByteArray.toList_eq]; exact Array.length_toList

set_option maxHeartbeats 1000000 in
set_option maxRecDepth 100000 in
theorem all_any (R : Nat) (s : ByteArray) (c : Int) (w : World) (hs : s.size ≤ 9223372036854775806) (hcls : ∀ j, j < 256 → w.cell? ⟨R, j, none⟩ = some (.int .u8 (cls j))) :
    Calls Tryz.prog 255 #[.pointer (some ⟨R, 0, none⟩), .string s, .int .u8 c] w fun e w' => e = .returned (.bool (allB c s.toList)) ∧ ∃ n, w' = w.drewN n := by
  have Hs := Lib.hid hs
  have Hcls := Lib.hid hcls
  clear hs hcls
  go_enter Tryz.func255, Tryz.ntmps255
  go_wp2
  go_loopw [7, 10] (fun _ i wr => ∃ k : Nat, k ≤ s.size ∧ i = .int .i64 k ∧ (∀ j, j < k → ∀ x, s.toList[j]? = some x → isC c x = true) ∧ ∃ n, wr = w.drewN n) (fun _ i _ => s.size - (intOf i).toNat)
  case atStart => exact ⟨0, by omega, rfl, fun j hj => by omega, 0, rfl⟩
  case round =>
    obtain ⟨k, hk, rfl, hall, n, rfl⟩ := hrel
    have Hall := Lib.hid hall
    clear hall
    by_cases hlt : k < s.size
    · have hx := toList_get s k hlt
      have hlt2 : (s[k].toNat : Int) < 256 := by have := UInt8.toNat_lt s[k]; omega
      have hc : w.cell? ⟨R, s[k].toNat, none⟩ = some (.int .u8 (cls s[k].toNat)) := Hcls.out _ (by omega)
      have Hx := Lib.hid hx
      clear hx
      have hkk : (k : Int) < 9223372036854775807 := by have := Hs.out; omega
      cases hC : isC c s[k] with
      | true =>
        have hb : (bits BinOp.and IntKind.u8 (cls s[k].toNat) c == 0) = false := by simpa [isC] using hC
        go_wp2
        go_quiet (fail)
        go_wp2
        go_roundw
        case rel =>
          refine ⟨k + 1, by omega, by simp, fun j hj x hjx => ?_, n + nq, by simp⟩
          by_cases e : j = k
          · subst e
            rw [Hx.out] at hjx
            cases hjx
            exact hC
          · exact Hall.out j (by omega) x hjx
        case measure => simp [intOf]; omega
      | false =>
        have hb : (bits BinOp.and IntKind.u8 (cls s[k].toNat) c == 0) = true := by simpa [isC] using hC
        go_wp2
        go_quiet (fail)
        go_wp2
        go_ret
        refine ⟨?_, n + nq, by simp⟩
        have h2 : s.toList.all (isC c) = false := by
          rw [List.all_eq_false]
          exact ⟨s[k], List.mem_of_getElem? Hx.out, by simp [hC]⟩
        simp [allB, h2]
    · obtain rfl : k = s.size := by omega
      have h2 : s.toList.all (isC c) = true := by
        rw [List.all_eq_true]
        intro x hx
        obtain ⟨j, hj⟩ := List.mem_iff_getElem?.1 hx
        have hj2 : j < s.toList.length := (List.getElem?_eq_some_iff.1 hj).1
        exact Hall.out j (by rw [← toList_length]; exact hj2) x hj
      have H2 := Lib.hid h2
      clear h2
      go_wp2
      go_ret
      refine ⟨?_, _, rfl⟩
      simp [allB, H2.out]
end Go.Proofs.YtjdgfdpbiidldaaGreatDoor
