/-
  Layer 3 (lex): Cut at a point, numerals. Conditions: the text's own size.
-/
import Derived.Test.YtjdgfdpbiidldaaGreatDoorLx5
import Derived.Lib.IndexLaws
namespace Go.Proofs.YtjdgfdpbiidldaaGreatDoor
open Go.RowKit

/-- a text ahead of its first point, and behind it, and whether it has one -/
def cutDot (s : ByteArray) : ByteArray × ByteArray × Bool :=
  if 0 ≤ Lib.indexByte s.data.toList 46 then (s.extract 0 (Lib.indexByte s.data.toList 46).toNat, s.extract ((Lib.indexByte s.data.toList 46).toNat + 1) s.size, true) else (s, ⟨#[]⟩, false)

theorem index_lt (s : ByteArray) (c : UInt8) (X : Int) (h : Lib.indexByte s.data.toList c = X) (h0 : 0 ≤ X) : X < s.size := by
  obtain ⟨n, rfl⟩ : ∃ n : Nat, X = n := ⟨X.toNat, by omega⟩
  have h1 := (Lib.indexByte_some h).1
  have h2 := (List.getElem?_eq_some_iff.1 h1).1
  have : s.data.toList.length = s.size := Array.length_toList
  omega

set_option maxHeartbeats 1000000 in
set_option maxRecDepth 100000 in
theorem cut_dot_lite (s : ByteArray) (w : World) (hs : s.size ≤ 9223372036854775806) :
    Calls Tryz.prog 382 #[.string s, .string ⟨#[46]⟩] w fun e w' => e = .returned (.tuple #[.string (cutDot s).1, .string (cutDot s).2.1, .bool (cutDot s).2.2]) ∧ ∃ n, w' = w.drewN n := by
  have hi := fun w => Tryz.stringslite_Index_one s 46 w
  obtain ⟨X, hX⟩ : ∃ X, Lib.indexByte s.data.toList 46 = X := ⟨_, rfl⟩
  have hlt := index_lt s 46 X hX
  simp only [hX] at hi
  have Hi := Lib.hid hi
  clear hi
  unfold cutDot
  rw [hX]
  clear hX
  by_cases h0 : 0 ≤ X
  · have hl := hlt h0
    clear hlt
    have q0 : decide (0 ≤ X) = true := by simpa using h0
    have hw : wrap64 (X + 1) = X + 1 := by unfold wrap64; omega
    have e1 : (X + 1).toNat = X.toNat + 1 := by omega
    have hs2 : X + 1 ≤ s.size := by omega
    have E1 := Lib.hid e1
    clear hs e1
    rw [if_pos h0]
    go_enter Tryz.func382, Tryz.ntmps382
    go_wp2_with (first | (go_at_call 378; refine (Hi.out _).mono ?_; rintro e w' ⟨rfl, rfl⟩))
    go_quiet (fail)
    go_wp2
    go_ret3
    refine ⟨?_, nq, rfl⟩
    rw [E1.out]
    rfl
  · have q0 : decide (0 ≤ X) = false := by simpa using h0
    rw [if_neg h0]
    clear hlt hs
    go_enter Tryz.func382, Tryz.ntmps382
    go_wp2_with (first | (go_at_call 378; refine (Hi.out _).mono ?_; rintro e w' ⟨rfl, rfl⟩))
    go_ret3
    exact ⟨rfl, 0, rfl⟩

set_option maxHeartbeats 1000000 in
set_option maxRecDepth 100000 in
theorem cut_dot (s : ByteArray) (w : World) (hs : s.size ≤ 9223372036854775806) :
    Calls Tryz.prog 336 #[.string s, .string ⟨#[46]⟩] w fun e w' => e = .returned (.tuple #[.string (cutDot s).1, .string (cutDot s).2.1, .bool (cutDot s).2.2]) ∧ ∃ n, w' = w.drewN n := by
  have H := Lib.hid hs
  clear hs
  go_enter Tryz.func336, Tryz.ntmps336
  go_wp2_with (first | (go_at_call 382; refine (cut_dot_lite s _ H.out).mono ?_; rintro e w' ⟨rfl, n, rfl⟩))
  go_ret3
  exact ⟨rfl, n, rfl⟩

/-- is a text digits, without noughts ahead? -/
def numB (s : ByteArray) : Bool := allB 2 s.toList && (!(s.toList.headD 0 == 48) || s.toList == [48])

set_option maxHeartbeats 1000000 in
set_option maxRecDepth 100000 in
theorem numeral_any (R : Nat) (s : ByteArray) (w : World) (hs : s.size ≤ 9223372036854775806) (hcls : ∀ j, j < 256 → w.cell? ⟨R, j, none⟩ = some (.int .u8 (cls j))) :
    Calls Tryz.prog 337 #[.pointer (some ⟨R, 0, none⟩), .string s] w fun e w' => e = .returned (.bool (numB s)) ∧ ∃ n, w' = w.drewN n := by
  have ha := all_any R s 2 w hs hcls
  cases hA : allB 2 s.toList with
  | false =>
    rw [hA] at ha
    have Ha := Lib.hid ha
    clear ha hcls hs
    have hn : numB s = false := by simp [numB, hA]
    rw [hn]
    clear hn hA
    go_enter Tryz.func337, Tryz.ntmps337
    go_wp2_with (first | (go_at_call 255; refine Ha.out.mono ?_; rintro e w' ⟨rfl, n, rfl⟩))
    go_ret
    exact ⟨rfl, n, rfl⟩
  | true =>
    rw [hA] at ha
    have hpos : 0 < s.size := by
      have h : s.toList ≠ [] := by intro h; rw [h] at hA; simp [allB] at hA
      have := toList_length s
      have h3 : 0 < s.toList.length := List.length_pos_iff.2 h
      omega
    have hx := toList_get s 0 hpos
    have hn : numB s = (!(((s[0].toNat : Nat) : Int) == 48) || s.toList == [48]) := by
      have e : s.toList.headD 0 = s[0] := by cases hl : s.toList with
        | nil => rw [hl] at hx; simp at hx
        | cons x l => rw [hl] at hx; simpa using hx
      have e2 : (s[0] == (48 : UInt8)) = (((s[0].toNat : Nat) : Int) == 48) := by
        rw [Bool.eq_iff_iff]
        simp only [beq_iff_eq]
        constructor
        · intro h; rw [h]; rfl
        · intro h; apply UInt8.toNat_inj.1; have : s[0].toNat = 48 := by omega
          rw [this]; rfl
      rw [numB, hA, e, e2]; rfl
    have Ha := Lib.hid ha
    clear ha hcls hs hx hA
    have Hn := Lib.hid hn
    clear hn
    cases h48 : (((s[0].toNat : Nat) : Int) == 48) with
    | false =>
      have h48b : (((s[0].toNat : Nat) : Int) != 48) = true := by simp [bne, h48]
      have hn : numB s = true := by rw [Hn.out, h48]; rfl
      rw [hn]
      clear hn
      go_enter Tryz.func337, Tryz.ntmps337
      go_wp2_with (first | (go_at_call 255; refine Ha.out.mono ?_; rintro e w' ⟨rfl, n, rfl⟩))
      go_ret
      exact ⟨rfl, n, rfl⟩
    | true =>
      have h48b : (((s[0].toNat : Nat) : Int) != 48) = false := by simp [bne, h48]
      have hn : numB s = (s.toList == [48]) := by rw [Hn.out, h48]; rfl
      rw [hn]
      clear hn
      go_enter Tryz.func337, Tryz.ntmps337
      go_wp2_with (first | (go_at_call 255; refine Ha.out.mono ?_; rintro e w' ⟨rfl, n, rfl⟩))
      go_ret
      exact ⟨rfl, n, rfl⟩
end Go.Proofs.YtjdgfdpbiidldaaGreatDoor
