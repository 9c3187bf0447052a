/-
  What all texts of this seat use: imports under one name, and small lemmas on worlds. No condition.
  The document's lexer (juristref03): digit, letter, blank, word, numeral. Conditions: sizes; the bytes lie where they are said to lie.
  Layer 1 (digits): words. Conditions: High and Low are int64's.
-/
import Derived.Test.YtjdgfdpbiidldaaGreatDoorProg
import Derived.WalkKit
import Derived.WalkLawsBesides
import Derived.WalkSpells
import Derived.OwnWalk
import Derived.Lib.Hide
import Derived.Deep.QuietTactic
import Derived.BigQuiet
import Derived.Lib.Strings
import Derived.Laws.IdiomStrings
import Derived.Laws.Externs
import Derived.Shelf.Spec.BitsCarry
namespace Go.Proofs.YtjdgfdpbiidldaaGreatDoor
open Go.RowKit

/-- What lies below the blocks of a call stays readable: all cells, all marks. -/
theorem bcell {W w1 : World} {B : Nat} (hb : Below B W w1) : (∀ b o, b < B → w1.cell? ⟨b, o, none⟩ = W.cell? ⟨b, o, none⟩) ∧ (∀ b o, b < B → w1.frozen? ⟨b, o, none⟩ = W.frozen? ⟨b, o, none⟩) :=
  ⟨fun b o h => hb.cell (p := ⟨b, o, none⟩) h, fun b o h => hb.frozen (p := ⟨b, o, none⟩) h⟩

end Go.Proofs.YtjdgfdpbiidldaaGreatDoor

namespace Go.Proofs.YtjdgfdpbiidldaaGreatDoor
open Go.RowKit

theorem ret_b {a b : Bool} (h : a = b) : Ending.returned (.bool a) = .returned (.bool b) := by rw [h]
def rDigit (x : UInt8) : Bool := decide (48 ≤ x.toNat) && decide (x.toNat ≤ 57)
def rBlank (x : UInt8) : Bool := x.toNat == 9 || x.toNat == 10 || x.toNat == 13 || x.toNat == 32
def rExtra : ByteArray := ⟨#[126, 33, 64, 36, 37, 94, 38, 42, 95, 45, 43, 61, 60, 62, 46, 63, 47]⟩
def rLetter (x : UInt8) : Bool := rExtra.data.toList.contains x || (decide (97 ≤ x.toNat) && decide (x.toNat ≤ 122)) || (decide (65 ≤ x.toNat) && decide (x.toNat ≤ 90)) || rDigit x

set_option maxHeartbeats 1000000 in
theorem rdigit_any (x : UInt8) (w : World) : Calls Tryz.prog 155 #[.int .u8 x.toNat] w fun e w' => e = .returned (.bool (rDigit x)) ∧ w = w' := by
  by_cases h1 : 48 ≤ x.toNat
  · by_cases h2 : x.toNat ≤ 57
    · have h : rDigit x = true := by simp [rDigit, h1, h2]
      rw [h]; clear h
      go_enter Tryz.func155, Tryz.ntmps155
      go_wp2
      go_ret
      exact ⟨ret_b (by simp; omega), rfl⟩
    · have h : rDigit x = false := by simp [rDigit, h2]
      rw [h]; clear h
      go_enter Tryz.func155, Tryz.ntmps155
      go_wp2
      go_ret
      exact ⟨ret_b (by simp; omega), rfl⟩
  · have h : rDigit x = false := by simp [rDigit, h1]
    rw [h]; clear h
    go_enter Tryz.func155, Tryz.ntmps155
    go_wp2
    go_ret
    exact ⟨rfl, rfl⟩

set_option maxHeartbeats 1000000 in
theorem rblank_any (x : UInt8) (w : World) : Calls Tryz.prog 75 #[.int .u8 x.toNat] w fun e w' => e = .returned (.bool (rBlank x)) ∧ w = w' := by
  unfold rBlank
  rcases (show x.toNat = 9 ∨ x.toNat = 10 ∨ x.toNat = 13 ∨ x.toNat = 32 ∨ (x.toNat ≠ 9 ∧ x.toNat ≠ 10 ∧ x.toNat ≠ 13 ∧ x.toNat ≠ 32) by omega) with h | h | h | h | ⟨h1, h2, h3, h4⟩
  · obtain rfl : x = 9 := by rw [← UInt8.toNat_inj]; simpa using h
    clear h
    go_enter Tryz.func75, Tryz.ntmps75
    go_wp2
    go_ret
    exact ⟨rfl, rfl⟩
  · obtain rfl : x = 10 := by rw [← UInt8.toNat_inj]; simpa using h
    clear h
    go_enter Tryz.func75, Tryz.ntmps75
    go_wp2
    go_ret
    exact ⟨rfl, rfl⟩
  · obtain rfl : x = 13 := by rw [← UInt8.toNat_inj]; simpa using h
    clear h
    go_enter Tryz.func75, Tryz.ntmps75
    go_wp2
    go_ret
    exact ⟨rfl, rfl⟩
  · obtain rfl : x = 32 := by rw [← UInt8.toNat_inj]; simpa using h
    clear h
    go_enter Tryz.func75, Tryz.ntmps75
    go_wp2
    go_ret
    exact ⟨rfl, rfl⟩
  · have e1 : ((x.toNat : Int) == 9) = false := by rw [beq_eq_false_iff_ne]; omega
    have e2 : ((x.toNat : Int) == 10) = false := by rw [beq_eq_false_iff_ne]; omega
    have e3 : ((x.toNat : Int) == 13) = false := by rw [beq_eq_false_iff_ne]; omega
    have e4 : ((x.toNat : Int) == 32) = false := by rw [beq_eq_false_iff_ne]; omega
    have h : (x.toNat == 9 || x.toNat == 10 || x.toNat == 13 || x.toNat == 32) = false := by simp [h1, h2, h3, h4]
    rw [h]
    clear h h1 h2 h3 h4
    go_enter Tryz.func75, Tryz.ntmps75
    go_wp2
    go_ret
    exact ⟨rfl, rfl⟩

theorem rletter_end (x : UInt8) (h : rExtra.data.toList.contains x = false) : rLetter x = ((decide (97 ≤ x.toNat) && decide (x.toNat ≤ 122)) || (decide (65 ≤ x.toNat) && decide (x.toNat ≤ 90)) || rDigit x) := by
  simp only [rLetter, h, Bool.false_or]

set_option maxHeartbeats 2000000 in
set_option maxRecDepth 100000 in
theorem rletter_any (x : UInt8) (w : World) : Calls Tryz.prog 211 #[.int .u8 x.toNat] w fun e w' => e = .returned (.bool (rLetter x)) ∧ w = w' := by
  obtain ⟨L, hL⟩ : ∃ L, L = rLetter x := ⟨_, rfl⟩
  rw [← hL]
  have HL := Lib.hid hL
  clear hL
  have hx255 : (x.toNat : Int) ≤ 255 := by have := UInt8.toNat_lt x; omega
  go_enter Tryz.func211, Tryz.ntmps211
  go_wp2
  obtain ⟨X, hX⟩ : ∃ X : ByteArray, X = ⟨#[126, 33, 64, 36, 37, 94, 38, 42, 95, 45, 43, 61, 60, 62, 46, 63, 47]⟩ := ⟨_, rfl⟩
  rw [← hX]
  have hXs : X.size = 17 := by rw [hX]; rfl
  have hXe : X = rExtra := hX
  have HXs := Lib.hid hXs
  have HXe := Lib.hid hXe
  have hX17 : X.size ≤ 17 := by omega
  clear hX hXs hXe
  go_loopw [4] (fun i wr => ∃ k : Nat, i = .int .i64 k ∧ k ≤ X.size ∧ (∀ j, j < k → X.data.toList[j]? ≠ some x) ∧ wr = w) (fun i _ => X.size - (intOf i).toNat)
  case atStart => exact ⟨0, rfl, by omega, fun j hj => by omega, by first | rfl | trivial⟩
  case round =>
    obtain ⟨k, rfl, hk, hall, rfl⟩ := hrel
    have Hall := Lib.hid hall
    clear hall
    by_cases hlt : k < X.size
    · have hget : X.data.toList[k]? = some (X[k]'hlt) := by
        rw [Array.getElem?_toList]; exact Array.getElem?_eq_getElem hlt
      have Hget := Lib.hid hget
      clear hget
      by_cases he : X[k] = x
      · have ht : (((X[k]'hlt).toNat : Int) == x.toNat) = true := by rw [he]; simp
        have hres : L = true := by
          rw [HL.out]
          have hm : rExtra.data.toList.contains x = true := by
            rw [List.contains_iff_mem, ← HXe.out]
            exact List.mem_of_getElem? (Hget.out.trans (by rw [he]))
          simp only [rLetter, hm, Bool.true_or]
        have Hres := Lib.hid hres
        clear hres he
        go_wp2
        go_ret
        exact ⟨ret_b Hres.out.symm, rfl⟩
      · have ht : (((X[k]'hlt).toNat : Int) == x.toNat) = false := by
          rw [beq_eq_false_iff_ne]
          intro e
          exact he (UInt8.toNat_inj.1 (by omega))
        have Hne := Lib.hid he
        clear he
        go_wp2
        go_roundw
        case rel =>
          refine ⟨k + 1, by simp, by omega, fun j hj e => ?_, by first | rfl | trivial⟩
          by_cases hjk : j = k
          · subst hjk
            rw [Hget.out] at e
            exact Hne.out (Option.some.inj e)
          · exact Hall.out j (by omega) e
        case measure => simp [intOf]; omega
    · have hend : L = ((decide (97 ≤ x.toNat) && decide (x.toNat ≤ 122)) || (decide (65 ≤ x.toNat) && decide (x.toNat ≤ 90)) || rDigit x) := by
        rw [HL.out]
        refine rletter_end x ?_
        rw [Bool.eq_false_iff]
        intro hm
        rw [List.contains_iff_mem, ← HXe.out] at hm
        obtain ⟨j, hj⟩ := List.mem_iff_getElem?.1 hm
        have hj2 : j < X.data.toList.length := (List.getElem?_eq_some_iff.1 hj).1
        refine Hall.out j ?_ hj
        have : X.data.toList.length = X.size := Array.length_toList
        omega
      have Hend := Lib.hid hend
      clear hend
      by_cases a1 : 97 ≤ x.toNat
      · by_cases a2 : x.toNat ≤ 122
        · have hr : L = true := by rw [Hend.out]; simp [a1, a2]
          have Hr := Lib.hid hr
          clear hr
          go_wp2
          go_ret
          exact ⟨ret_b Hr.out.symm, rfl⟩
        · have hr : L = rDigit x := by
            rw [Hend.out]
            have b : ¬ x.toNat ≤ 90 := by omega
            simp [a2, b]
          have Hr := Lib.hid hr
          clear hr
          have d1 : decide ((x.toNat : Int) ≤ 122) = false := by simp; omega
          have d2 : decide ((x.toNat : Int) ≤ 90) = false := by simp; omega
          go_wp2_with (go_at_call 155; refine (rdigit_any x _).mono ?_; rintro e w' ⟨rfl, rfl⟩)
          go_ret
          exact ⟨ret_b Hr.out.symm, rfl⟩
      · by_cases b1 : 65 ≤ x.toNat
        · by_cases b2 : x.toNat ≤ 90
          · have hr : L = true := by rw [Hend.out]; simp [b1, b2]
            have Hr := Lib.hid hr
            clear hr
            go_wp2
            go_ret
            exact ⟨ret_b Hr.out.symm, rfl⟩
          · have hr : L = rDigit x := by rw [Hend.out]; simp [a1, b2]
            have Hr := Lib.hid hr
            clear hr
            have d2 : decide ((x.toNat : Int) ≤ 90) = false := by simp; omega
            go_wp2_with (go_at_call 155; refine (rdigit_any x _).mono ?_; rintro e w' ⟨rfl, rfl⟩)
            go_ret
            exact ⟨ret_b Hr.out.symm, rfl⟩
        · have hr : L = rDigit x := by rw [Hend.out]; simp [a1, b1]
          have Hr := Lib.hid hr
          clear hr
          go_wp2_with (go_at_call 155; refine (rdigit_any x _).mono ?_; rintro e w' ⟨rfl, rfl⟩)
          go_ret
          exact ⟨ret_b Hr.out.symm, rfl⟩
end Go.Proofs.YtjdgfdpbiidldaaGreatDoor

namespace Go.Proofs.YtjdgfdpbiidldaaGreatDoor
open Go.RowKit

theorem wrap_u64 (x : Int) : IntKind.u64.wrap x = x % 18446744073709551616 := by unfold IntKind.wrap; simp [IntKind.signed, IntKind.bits]

theorem add64 (x y c : Int) (hx : 0 ≤ x ∧ x < 18446744073709551616) (hy : 0 ≤ y ∧ y < 18446744073709551616) (hc : 0 ≤ c ∧ c ≤ 1) :
    ∃ s k, (∀ w, (callFunc 200 #[.int .u64 x, .int .u64 y, .int .u64 c]).run Tryz.prog w = .ok (.value (.tuple #[.int .u64 s, .int .u64 k])) w) ∧ s = (x + y + c) % 18446744073709551616 ∧ k = (x + y + c) / 18446744073709551616 := by
  obtain ⟨a, rfl⟩ := Int.eq_ofNat_of_zero_le hx.1
  obtain ⟨b, rfl⟩ := Int.eq_ofNat_of_zero_le hy.1
  obtain ⟨d, rfl⟩ := Int.eq_ofNat_of_zero_le hc.1
  refine ⟨_, _, fun w => ?_, rfl, rfl⟩
  rw [run_callFunc_extern Tryz.func200 (by kernel_rfl) (by kernel_rfl) (by kernel_rfl) (e := add64Entry) (by kernel_rfl), run_add64 a b d (by omega) (by omega) (by omega) (by omega)]
  simp only [Result.andThen]
theorem sub64 (x y c : Int) (hx : 0 ≤ x ∧ x < 18446744073709551616) (hy : 0 ≤ y ∧ y < 18446744073709551616) (hc : 0 ≤ c ∧ c ≤ 1) :
    ∃ s k, (∀ w, (callFunc 137 #[.int .u64 x, .int .u64 y, .int .u64 c]).run Tryz.prog w = .ok (.value (.tuple #[.int .u64 s, .int .u64 k])) w) ∧ s = (x - y - c) % 18446744073709551616 ∧ k = (if x < y + c then 1 else 0) := by
  obtain ⟨a, rfl⟩ := Int.eq_ofNat_of_zero_le hx.1
  obtain ⟨b, rfl⟩ := Int.eq_ofNat_of_zero_le hy.1
  obtain ⟨d, rfl⟩ := Int.eq_ofNat_of_zero_le hc.1
  have h := fun w => show (callFunc 137 #[.int .u64 a, .int .u64 b, .int .u64 d]).run Tryz.prog w = .ok (.value (.tuple #[.int .u64 (((a + 18446744073709551616 - b - d) % 18446744073709551616 : Nat) : Int), .int .u64 ((if a < b + d then 1 else 0 : Nat) : Int)])) w from by
    rw [run_callFunc_extern Tryz.func137 (by kernel_rfl) (by kernel_rfl) (by kernel_rfl) (e := sub64Entry) (by kernel_rfl), run_sub64 a b d (by omega)]
    rfl
  refine ⟨_, _, h, ?_, ?_⟩
  · omega
  · split <;> split <;> omega

/-- what an integer of two words is -/
def numV (hi lo : Int) : Int := hi * 4611686018427387904 + lo
theorem words_top (hi lo s1 k1 s2 k2 : Int) (h1 : -9223372036854775808 ≤ hi ∧ hi ≤ 9223372036854775807) (h2 : -9223372036854775808 ≤ lo ∧ lo ≤ 9223372036854775807)
    (hs1 : s1 = (IntKind.u64.wrap (IntKind.u64.wrap hi * 4611686018427387904) + IntKind.u64.wrap lo + 0) % 18446744073709551616) (hk1 : k1 = (IntKind.u64.wrap (IntKind.u64.wrap hi * 4611686018427387904) + IntKind.u64.wrap lo + 0) / 18446744073709551616)
    (hs2 : s2 = (IntKind.u64.wrap (hi / 4) + IntKind.u64.wrap (lo / 9223372036854775808) + k1) % 18446744073709551616) (_hk2 : k2 = (IntKind.u64.wrap (hi / 4) + IntKind.u64.wrap (lo / 9223372036854775808) + k1) / 18446744073709551616) :
    wrap64 s2 = numV hi lo / 18446744073709551616 ∧ s1 = numV hi lo % 18446744073709551616 := by
  simp only [wrap_u64] at *
  unfold numV wrap64
  constructor <;> omega

set_option maxHeartbeats 1000000 in
set_option maxRecDepth 100000 in
theorem dwords_any (hi lo : Int) (w : World) (h1 : -9223372036854775808 ≤ hi ∧ hi ≤ 9223372036854775807) (h2 : -9223372036854775808 ≤ lo ∧ lo ≤ 9223372036854775807) :
    Calls Tryz.prog 136 #[.agg #[.int .i64 hi, .int .i64 lo]] w fun e w' => e = .returned (.tuple #[.int .i64 (numV hi lo / 18446744073709551616), .int .u64 (numV hi lo % 18446744073709551616)]) ∧ Below w.heap.size w w' := by
  obtain ⟨x, hx⟩ : ∃ x, x = IntKind.u64.wrap (IntKind.u64.wrap hi * 4611686018427387904) := ⟨_, rfl⟩
  obtain ⟨y, hy⟩ : ∃ y, y = IntKind.u64.wrap lo := ⟨_, rfl⟩
  obtain ⟨s1, k1, r1, e1, e2⟩ := add64 x y 0 (by rw [hx, wrap_u64]; omega) (by rw [hy, wrap_u64]; omega) (by omega)
  have hxr : 0 ≤ x ∧ x < 18446744073709551616 := by rw [hx, wrap_u64]; omega
  have hyr : 0 ≤ y ∧ y < 18446744073709551616 := by rw [hy, wrap_u64]; omega
  obtain ⟨s2, k2, r2, e3, e4⟩ := add64 (IntKind.u64.wrap (hi / 4)) (IntKind.u64.wrap (lo / 9223372036854775808)) k1 (by rw [wrap_u64]; omega) (by rw [wrap_u64]; omega) (by omega)
  have hfin := words_top hi lo s1 k1 s2 k2 h1 h2 (by rw [e1, hx, hy]) (by rw [e2, hx, hy]) e3 e4
  rw [hx, hy] at r1
  have R1 := Lib.hid r1
  have R2 := Lib.hid r2
  have Hfin := Lib.hid hfin
  clear hx hy r1 r2 e1 e2 e3 e4 hxr hyr hfin
  have H1 := Lib.hid h1
  have H2 := Lib.hid h2
  clear h1 h2
  rw [← Hfin.out.1, ← Hfin.out.2]
  go_enter Tryz.func136, Tryz.ntmps136
  go_wp2
  rw [R1.out]
  rw [Oper.upon_value]
  go_wp2
  rw [R2.out]
  rw [Oper.upon_value]
  go_wp2
  go_ret2
  refine ⟨rfl, ?_⟩
  repeat (first | exact Below.refl _ _ | refine Below.alloc ?_ (by simp) _ | refine Below.setCell ?_ (by simp) _)
end Go.Proofs.YtjdgfdpbiidldaaGreatDoor
