/-
  Layer 1 (digits): Div64 by ten. Conditions: the upper word is below ten.
  Decimal numerals: what Lib.decDigits spells is read by Lib.atoiAll as the number, or it is too great. No program. No condition.
  Layer 1 (digits): Write. Conditions: High and Low are int64's. (Laid by gen_dg3.py.)
  Frames by kind: a call that writes only blocks of some element types (and maps) keeps all others; rows of structs, element by element. No condition.
  Maps of the call's own, whatever the keys' kind and the elements: a block reads as a list of keys and values, each key once, in the order in which they came. What a look-up, a store, a delete and len do to it. Conditions: the keys' kind (KeyKind), which strings and integers meet.
  Layer 5 (sorts): the contracts of the functions that look whether a name may be. No condition but the sizes named.
-/
import Derived.Test.YtjdgfdpbiidldaaGreatDoorRdM1
import Derived.Test.YtjdgfdpbiidldaaGreatDoorRdM2
import Derived.Laws.BitsAllLaws
import Derived.Lib.ItoaMem
import Derived.Lib.ParseIntBTie
import Derived.Deep.RegionLawGrows
import Derived.Lib.Builder
import Derived.MapKept
import Derived.Maps.OwnSet
import Derived.ChangeMaps
namespace Go.Proofs.YtjdgfdpbiidldaaGreatDoor
open Go.RowKit

theorem ret_uu {a b c d : Int} (h : a = c) (k : b = d) : Ending.returned (.tuple #[.int .u64 a, .int .u64 b]) = .returned (.tuple #[.int .u64 c, .int .u64 d]) := by rw [h, k]
set_option maxHeartbeats 1000000 in
set_option maxRecDepth 100000 in
theorem div10_low (lo : Int) (w : World) (h2 : 0 ≤ lo ∧ lo ≤ 18446744073709551615) :
    Calls Tryz.prog 138 #[.int .u64 0, .int .u64 lo, .int .u64 10] w fun e w' => e = .returned (.tuple #[.int .u64 (lo / 10), .int .u64 (lo % 10)]) ∧ ∃ n, w' = w.drewN n := by
  have h0 : 0 ≤ lo := h2.1
  have H2 := Lib.hid h2.2
  clear h2
  go_enter Tryz.func138, Tryz.ntmps138
  go_wp2
  go_quiet (fail)
  go_wp2
  go_ret2
  exact ⟨ret_uu (by have := H2.out; rw [wrap_u64, Int.tdiv_eq_ediv_of_nonneg h0]; omega) rfl, _, rfl⟩

theorem lead10 (w : World) : Calls Tryz.prog 201 #[.int .u64 10] w fun e w' => e = .returned (.int .i64 60) ∧ w = w' := by
  refine (Tryz.bits_LeadingZeros64 10 w (by omega) (by omega)).mono ?_
  rintro e w' ⟨he, hw⟩
  exact ⟨by rw [he]; exact congrArg (fun x => Ending.returned (.int .i64 x)) (by decide), hw.symm⟩

theorem or60 (hi lo : Int) (h1 : 0 < hi ∧ hi < 10) (h2 : 0 ≤ lo ∧ lo ≤ 18446744073709551615) : bits .or .u64 (hi * 1152921504606846976) (lo / 16) = hi * 1152921504606846976 + lo / 16 := by
  obtain ⟨a, rfl⟩ := Int.eq_ofNat_of_zero_le (Int.le_of_lt h1.1)
  obtain ⟨b, rfl⟩ := Int.eq_ofNat_of_zero_le h2.1
  have e1 : ((a : Int) * 1152921504606846976) = ((2 ^ 60 * a : Nat) : Int) := by omega
  have e2 : ((b : Int) / 16) = ((b / 16 : Nat) : Int) := by omega
  rw [e1, e2, u64_or_nat _ _ (by omega) (by omega), ← Nat.two_pow_add_eq_or_of_lt (by omega)]
  omega
theorem and32 (n : Int) (h1 : 0 ≤ n ∧ n ≤ 18446744073709551615) : bits .and .u64 n 4294967295 = n % 4294967296 := by
  obtain ⟨a, rfl⟩ := Int.eq_ofNat_of_zero_le h1.1
  have e : (4294967295 : Int) = ((2 ^ 32 - 1 : Nat) : Int) := by omega
  rw [e, u64_and_nat _ _ (by omega) (by omega), Nat.and_two_pow_sub_one_eq_mod]
  omega

theorem div10_key (hi lo A L U Q R V Q0 R0 : Int) (_h1 : 0 < hi ∧ hi < 10) (_h2 : 0 ≤ lo ∧ lo ≤ 18446744073709551615) (hA : A = hi * 1152921504606846976 + lo / 16) (hL : L = lo % 16 * 1152921504606846976) (hU : U = L / 4294967296)
    (hQ : Q = A / 2684354560) (hR : R = A % 2684354560) (hV : V = R * 4294967296 + U) (hQ0 : Q0 = V / 2684354560) (hR0 : R0 = V % 2684354560) :
    Q * 4294967296 + Q0 = (hi * 18446744073709551616 + lo) / 10 ∧ R0 / 268435456 = (hi * 18446744073709551616 + lo) % 10 := by
  have hk : 268435456 * (hi * 18446744073709551616 + lo) = (Q * 4294967296 + Q0) * 2684354560 + R0 := by omega
  have hb : 0 ≤ R0 ∧ R0 < 2684354560 := by omega
  clear hA hL hU hQ hR hV hQ0 hR0
  constructor <;> omega

set_option maxHeartbeats 4000000 in
set_option maxRecDepth 100000 in
theorem div10_high (hi lo : Int) (w : World) (h1 : 0 < hi ∧ hi < 10) (h2 : 0 ≤ lo ∧ lo ≤ 18446744073709551615) :
    Calls Tryz.prog 138 #[.int .u64 hi, .int .u64 lo, .int .u64 10] w fun e w' => e = .returned (.tuple #[.int .u64 ((hi * 18446744073709551616 + lo) / 10), .int .u64 ((hi * 18446744073709551616 + lo) % 10)]) ∧ ∃ n, w' = w.drewN n := by
  have hor := or60 hi lo h1 h2
  obtain ⟨A, hA⟩ : ∃ A, A = hi * 1152921504606846976 + lo / 16 := ⟨_, rfl⟩
  have hL : IntKind.u64.wrap (lo * 1152921504606846976) = lo % 16 * 1152921504606846976 := by rw [wrap_u64]; omega
  obtain ⟨L, hLe⟩ : ∃ L, L = lo % 16 * 1152921504606846976 := ⟨_, rfl⟩
  obtain ⟨U, hU⟩ : ∃ U, U = L / 4294967296 := ⟨_, rfl⟩
  have hand := and32 L (by omega)
  have hL0 : L % 4294967296 = 0 := by omega
  rw [← hLe] at hL
  rw [← hA] at hor
  rw [hL0] at hand
  obtain ⟨Q, hQ⟩ : ∃ Q, Q = A / 2684354560 := ⟨_, rfl⟩
  obtain ⟨R, hR⟩ : ∃ R, R = A % 2684354560 := ⟨_, rfl⟩
  have hq : IntKind.u64.wrap (A.tdiv 2684354560) = Q := by rw [wrap_u64, Int.tdiv_eq_ediv_of_nonneg (by omega)]; omega
  have hr : IntKind.u64.wrap (A - IntKind.u64.wrap (Q * 2684354560)) = R := by rw [wrap_u64, wrap_u64]; omega
  have hk : bits BinOp.and IntKind.u64 11529215046068469760 4294967295 = 0 := by rw [and32 _ (by omega)]; omega
  obtain ⟨V, hV⟩ : ∃ V, V = R * 4294967296 + U := ⟨_, rfl⟩
  have bA : 0 ≤ A ∧ A < 11529215046068469760 := by omega
  have bU : 0 ≤ U ∧ U < 4294967296 := by omega
  have bQ : 0 ≤ Q ∧ Q < 4294967296 := by omega
  have bR : 0 ≤ R ∧ R < 2684354560 := by omega
  obtain ⟨Q0, hQ0⟩ : ∃ Q0, Q0 = V / 2684354560 := ⟨_, rfl⟩
  obtain ⟨R0, hR0⟩ : ∃ R0, R0 = V % 2684354560 := ⟨_, rfl⟩
  have hV1 : IntKind.u64.wrap (IntKind.u64.wrap (IntKind.u64.wrap (A * 4294967296) + U) - IntKind.u64.wrap (Q * 11529215046068469760)) = V := by rw [wrap_u64, wrap_u64, wrap_u64, wrap_u64]; omega
  have hq0 : IntKind.u64.wrap (V.tdiv 2684354560) = Q0 := by rw [wrap_u64, Int.tdiv_eq_ediv_of_nonneg (by omega)]; omega
  have hr0 : IntKind.u64.wrap (V - IntKind.u64.wrap (Q0 * 2684354560)) = R0 := by rw [wrap_u64, wrap_u64]; omega
  have bQ0 : 0 ≤ Q0 ∧ Q0 < 4294967296 := by omega
  have bR0 : 0 ≤ R0 ∧ R0 < 2684354560 := by omega
  have HQ0 := Lib.hid hQ0
  have HR0 := Lib.hid hR0
  have HV1 := Lib.hid hV1
  have Hq0 := Lib.hid hq0
  have Hr0 := Lib.hid hr0
  have BQ0 := Lib.hid bQ0
  have BR0 := Lib.hid bR0
  clear hQ0 hR0 hV1 hq0 hr0 bQ0 bR0
  have bV : 0 ≤ V ∧ V < 11529215046068469760 := by omega
  have hz : (hi == 0) = false := by rw [beq_eq_false_iff_ne]; omega
  have hh0 : 0 < hi := h1.1
  have hh1 : hi < 10 := h1.2
  have h0 : 0 ≤ lo := h2.1
  have H1 := Lib.hid h1
  have H2 := Lib.hid h2
  have Hor := Lib.hid hor
  have HA := Lib.hid hA
  have HL := Lib.hid hL
  have HLe := Lib.hid hLe
  have HU := Lib.hid hU
  have Hand := Lib.hid hand
  have HQ := Lib.hid hQ
  have HR := Lib.hid hR
  have Hq := Lib.hid hq
  have Hr := Lib.hid hr
  have Hk := Lib.hid hk
  have HV := Lib.hid hV
  have BA := Lib.hid bA
  have BU := Lib.hid bU
  have BQ := Lib.hid bQ
  have BR := Lib.hid bR
  have BV := Lib.hid bV
  clear h1 h2 hor hA hL hLe hU hand hQ hR hq hr hk hV bA bU bQ bR bV hL0
  go_enter Tryz.func138, Tryz.ntmps138
  go_wp2_with fail
  refine (lead10 _).mono ?_
  rintro e w' ⟨rfl, rfl⟩
  go_wp2_with fail
  rw [Hor.out, HL.out, Hk.out, Hq.out, Hand.out, ← HU.out, Hr.out]
  have q1 : 0 ≤ Q := BQ.out.1
  have q2 : Q < 4294967296 := BQ.out.2
  have r1 : 0 ≤ R := BR.out.1
  have u1 : 0 ≤ U := BU.out.1
  have r2 : R < 2684354560 := BR.out.2
  have u2 : U < 4294967296 := BU.out.2
  refine wp_loop_rounds 1 ?_
  rw [rounds_succ]
  go_wp2_with fail
  rw [HV1.out, Hq0.out, Hr0.out]
  have q3 : 0 ≤ Q0 := BQ0.out.1
  have q4 : Q0 < 4294967296 := BQ0.out.2
  have r3 : 0 ≤ R0 := BR0.out.1
  have r4 : R0 < 2684354560 := BR0.out.2
  refine wp_loop_rounds 1 ?_
  rw [rounds_succ]
  go_wp2_with fail
  go_ret2
  refine ⟨ret_uu ?_ ?_, 0, rfl⟩
  · have e1 := HA.out
    have e2 := HLe.out
    have e3 := HU.out
    have e4 := HQ.out
    have e5 := HR.out
    have e6 := HV.out
    have e7 := HQ0.out
    have e8 := HR0.out
    have b1 := H1.out
    have b2 := H2.out
    exact (div10_key hi lo A L U Q R V Q0 R0 b1 b2 e1 e2 e3 e4 e5 e6 e7 e8).1
  · have e1 := HA.out
    have e2 := HLe.out
    have e3 := HU.out
    have e4 := HQ.out
    have e5 := HR.out
    have e6 := HV.out
    have e7 := HQ0.out
    have e8 := HR0.out
    have b1 := H1.out
    have b2 := H2.out
    rw [← (div10_key hi lo A L U Q R V Q0 R0 b1 b2 e1 e2 e3 e4 e5 e6 e7 e8).2, wrap_u64, wrap_u64, wrap_u64, wrap_u64]
    omega
end Go.Proofs.YtjdgfdpbiidldaaGreatDoor

namespace Go.Proofs.YtjdgfdpbiidldaaGreatDoor
open Go Go.Lib

theorem dec_small {n : Nat} (h : n < 10) : decDigits n = [UInt8.ofNat (48 + n)] := by rw [decDigits, dif_pos h]
theorem dec_big {n : Nat} (h : ¬ n < 10) : decDigits n = decDigits (n / 10) ++ [UInt8.ofNat (48 + n % 10)] := by rw [decDigits, dif_neg h]
theorem dig_toNat {d : Nat} (h : d < 10) : (UInt8.ofNat (48 + d)).toNat = 48 + d := by
  rw [UInt8.toNat_ofNat']; omega

theorem dec_digit (n : Nat) : ∀ c ∈ decDigits n, 48 ≤ c.toNat ∧ c.toNat ≤ 57 := by
  induction n using Nat.strongRecOn with
  | ind n ih =>
    intro c hc
    by_cases h : n < 10
    · rw [dec_small h] at hc
      rw [List.mem_singleton.1 hc, dig_toNat h]; omega
    · rw [dec_big h] at hc
      rcases List.mem_append.1 hc with hc | hc
      · exact ih (n / 10) (by omega) c hc
      · rw [List.mem_singleton.1 hc, dig_toNat (Nat.mod_lt _ (by omega))]; omega

theorem dec_ne (n : Nat) : decDigits n ≠ [] := by
  by_cases h : n < 10
  · rw [dec_small h]; simp
  · rw [dec_big h]; simp

theorem dec_head (n : Nat) (h : n ≠ 0) : ∃ c r, decDigits n = c :: r ∧ 49 ≤ c.toNat ∧ c.toNat ≤ 57 := by
  induction n using Nat.strongRecOn with
  | ind n ih =>
    by_cases h10 : n < 10
    · refine ⟨_, [], dec_small h10, ?_⟩
      rw [dig_toNat h10]; omega
    · obtain ⟨c, r, hr, hc⟩ := ih (n / 10) (by omega) (by omega)
      exact ⟨c, r ++ [UInt8.ofNat (48 + n % 10)], by rw [dec_big h10, hr]; rfl, hc⟩
theorem dec_zero : decDigits 0 = [48] := by rw [dec_small (by omega)]; rfl

/-- the digits of what stands ahead, if anything does -/
def decAhead (n : Nat) : List UInt8 := if n = 0 then [] else decDigits n
theorem dec_step (n : Nat) : decDigits n = decAhead (n / 10) ++ [UInt8.ofNat (48 + n % 10)] := by
  unfold decAhead
  by_cases h : n < 10
  · rw [dec_small h, if_pos (by omega), Nat.mod_eq_of_lt h]; rfl
  · rw [dec_big h, if_neg (by omega)]
theorem ahead_step (n : Nat) (h : n ≠ 0) : decAhead n = decAhead (n / 10) ++ [UInt8.ofNat (48 + n % 10)] := by
  rw [← dec_step]; unfold decAhead; rw [if_neg h]

theorem parse_snoc (l : List UInt8) (c : UInt8) : ∀ acc, parseUint10 acc (l ++ [c]) = match parseUint10 acc l with | .ok a => parseUint10 a [c] | .syntax => .syntax | .range => .range := by
  induction l with
  | nil => intro acc; rfl
  | cons x l ih =>
    intro acc
    simp only [List.cons_append, parseUint10]
    split
    · split
      · rfl
      · split
        · rfl
        · exact ih _
    · rfl

theorem parse_dec (n : Nat) : parseUint10 0 (decDigits n) = if n < 18446744073709551616 then .ok n else .range := by
  induction n using Nat.strongRecOn with
  | ind n ih =>
    by_cases h : n < 10
    · rw [dec_small h]
      simp only [parseUint10, dig_toNat h]
      rw [if_pos (by omega), if_neg (by omega), if_neg (by omega), if_pos (by omega)]
      simp
    · rw [dec_big h, parse_snoc, ih (n / 10) (by omega)]
      have hm : n % 10 < 10 := Nat.mod_lt _ (by omega)
      by_cases h1 : n / 10 < 18446744073709551616
      · rw [if_pos h1]
        simp only [parseUint10, dig_toNat hm]
        rw [if_pos (by omega)]
        by_cases h2 : 1844674407370955162 ≤ n / 10
        · rw [if_pos h2, if_neg (by omega)]
        · rw [if_neg h2]
          have e : n / 10 * 10 + (48 + n % 10 - 48) = n := by omega
          rw [e]
          by_cases h3 : 18446744073709551616 ≤ n
          · rw [if_pos h3, if_neg (by omega)]
          · rw [if_neg h3, if_pos (by omega)]
      · rw [if_neg h1, if_neg (by omega)]

theorem atoi_dec (n : Nat) : atoiAll (decDigits n) = if n < 9223372036854775808 then .ok (n : Int) else .range := by
  obtain ⟨c, r, hc⟩ : ∃ c r, decDigits n = c :: r := by
    cases h : decDigits n with
    | nil => exact absurd h (dec_ne n)
    | cons c r => exact ⟨c, r, rfl⟩
  have hd := dec_digit n c (by rw [hc]; simp)
  have hp : parseMag (c :: r) = if n < 18446744073709551616 then .ok n else .range := by
    unfold parseMag
    rw [if_neg (by simp), ← hc, parse_dec]
  rw [hc]
  unfold atoiAll
  simp only []
  rw [if_neg (by omega), hp]
  have hneg : ¬ c.toNat = 45 := by omega
  by_cases h1 : n < 18446744073709551616
  · rw [if_pos h1]
    simp only [hneg, not_false_eq_true, true_and, false_and, if_false]
    by_cases h2 : 9223372036854775808 ≤ n
    · rw [if_pos h2, if_neg (by omega)]
    · rw [if_neg h2, if_pos (by omega)]
  · rw [if_neg h1, if_neg (by omega)]

theorem dec_inj (a b : Nat) (h : decDigits a = decDigits b) : a = b := by
  induction a using Nat.strongRecOn generalizing b with
  | ind a ih =>
    rw [dec_step a, dec_step b] at h
    have h1 := List.append_inj' h rfl
    have h2 : UInt8.ofNat (48 + a % 10) = UInt8.ofNat (48 + b % 10) := by simpa using h1.2
    have h3 : a % 10 = b % 10 := by
      have := congrArg UInt8.toNat h2
      rw [dig_toNat (Nat.mod_lt _ (by omega)), dig_toNat (Nat.mod_lt _ (by omega))] at this
      omega
    have h4 : a / 10 = b / 10 := by
      have := h1.1
      unfold decAhead at this
      by_cases ha : a / 10 = 0
      · by_cases hb : b / 10 = 0
        · omega
        · rw [if_pos ha, if_neg hb] at this
          exact absurd this.symm (dec_ne _)
      · by_cases hb : b / 10 = 0
        · rw [if_neg ha, if_pos hb] at this
          exact absurd this (dec_ne _)
        · rw [if_neg ha, if_neg hb] at this
          exact ih (a / 10) (by omega) _ this
    omega
end Go.Proofs.YtjdgfdpbiidldaaGreatDoor

namespace Go.Proofs.YtjdgfdpbiidldaaGreatDoor
open Go.RowKit

theorem div10_any (hi lo : Int) (w : World) (h1 : 0 ≤ hi ∧ hi < 10) (h2 : 0 ≤ lo ∧ lo ≤ 18446744073709551615) :
    Calls Tryz.prog 138 #[.int .u64 hi, .int .u64 lo, .int .u64 10] w fun e w' => e = .returned (.tuple #[.int .u64 ((hi * 18446744073709551616 + lo) / 10), .int .u64 ((hi * 18446744073709551616 + lo) % 10)]) ∧ ∃ n, w' = w.drewN n := by
  by_cases h : hi = 0
  · subst h
    have h3 := div10_low lo w h2
    rw [Int.zero_mul, Int.zero_add]
    exact h3
  · exact div10_high hi lo w (by omega) h2

def digB (r : Nat) : ByteArray := ⟨#[UInt8.ofNat (48 + r)]⟩
theorem conv_rune (r : Int) (h : 0 ≤ r ∧ r < 10) (w : World) : (convert 21 9 (.int .i32 (48 + r))).run Tryz.prog w = .ok (.string (digB r.toNat)) w := by
  rcases (show r = 0 ∨ r = 1 ∨ r = 2 ∨ r = 3 ∨ r = 4 ∨ r = 5 ∨ r = 6 ∨ r = 7 ∨ r = 8 ∨ r = 9 by omega) with rfl | rfl | rfl | rfl | rfl | rfl | rfl | rfl | rfl | rfl <;> kernel_rfl

/-- what Write goes by: what is left, and what stands there -/
def WrSt (m : Nat) (M : Nat) (T : ByteArray) : Prop := (T.size = 0 ∧ M = m) ∨ (0 < T.size ∧ Lib.decDigits m = decAhead M ++ T.data.toList)
theorem digB_size (r : Nat) (T : ByteArray) : (digB r ++ T).size = T.size + 1 := by
  rw [ByteArray.size_append]
  show 1 + T.size = _
  omega
theorem digB_list (r : Nat) (T : ByteArray) : (digB r ++ T).data.toList = UInt8.ofNat (48 + r) :: T.data.toList := by
  rw [ByteArray.data_append]; simp [digB]
theorem WrSt.step {m M : Nat} {T : ByteArray} (h : WrSt m M T) (hne : M ≠ 0 ∨ T.size = 0) : WrSt m (M / 10) (digB (M % 10) ++ T) := by
  have hs := digB_size (M % 10) T
  refine .inr ⟨by omega, ?_⟩
  rw [digB_list]
  rcases h with ⟨h1, h2⟩ | ⟨h1, h2⟩
  · have hT : T.data.toList = [] := List.eq_nil_of_length_eq_zero h1
    rw [hT, ← h2]
    exact dec_step M
  · rcases hne with hM | hM
    · rw [h2, ahead_step M hM, List.append_assoc]; rfl
    · omega
theorem WrSt.done {m : Nat} {T : ByteArray} (h : WrSt m 0 T) (hT : T.size ≠ 0) : T = ⟨(Lib.decDigits m).toArray⟩ := by
  have e : T.data.toList = Lib.decDigits m := by
    rcases h with ⟨h1, _⟩ | ⟨_, h2⟩
    · exact absurd h1 hT
    · rw [h2]; rfl
  rw [← e]
theorem belowDN' {B : Nat} {a w : World} (h : Below B a w) (n : Nat) : Below B a (w.drewN n) := ⟨h.os, h.tape, h.output, h.size, h.block⟩
theorem dec_len : ∀ (k n : Nat), n < 10 ^ (k + 1) → (Lib.decDigits n).length ≤ k + 1
  | 0, n, h => by rw [dec_small (by simpa using h)]; simp
  | k + 1, n, h => by
    by_cases h10 : n < 10
    · rw [dec_small h10]; simp
    · rw [dec_big h10, List.length_append]
      have := dec_len k (n / 10) (by rw [Nat.pow_succ] at h; omega)
      simp
      omega
theorem WrSt.few {m M : Nat} {T : ByteArray} (h : WrSt m M T) (hm : m < 10 ^ 40) : T.size ≤ 40 := by
  rcases h with ⟨h1, _⟩ | ⟨_, h2⟩
  · omega
  · have h3 := dec_len 39 m hm
    rw [h2, List.length_append] at h3
    have h4 : T.data.toList.length = T.size := Array.length_toList
    omega
theorem cat_list (a b : List UInt8) : ((⟨a.toArray⟩ : ByteArray) ++ ⟨b.toArray⟩) = ⟨(a ++ b).toArray⟩ := by
  apply ByteArray.ext
  rw [ByteArray.data_append]
  simp
theorem ret_s {a b : ByteArray} (h : a = b) : Ending.returned (.string a) = .returned (.string b) := by rw [h]
theorem dec_eq48 (m : Nat) (h : (⟨(Lib.decDigits m).toArray⟩ : ByteArray).toList = [48]) : m = 0 := by
  rw [ByteArray.toList_eq] at h
  have h2 : Lib.decDigits m = [48] := by simpa using h
  by_cases hm : m = 0
  · exact hm
  · obtain ⟨c, r, h3, h4⟩ := dec_head m hm
    rw [h3] at h2
    cases h2
    exact absurd h4.1 (by decide)

set_option maxHeartbeats 8000000 in
set_option maxRecDepth 100000 in
theorem write_neg (hi lo : Int) (w : World) (h1 : -9223372036854775808 ≤ hi ∧ hi ≤ 9223372036854775807) (h2 : -9223372036854775808 ≤ lo ∧ lo ≤ 9223372036854775807) (hneg : numV hi lo < 0) :
    Calls Tryz.prog 65 #[.agg #[.int .i64 hi, .int .i64 lo]] w fun e w' => e = .returned (.string ⟨(Lib.itoa (numV hi lo)).toArray⟩) ∧ Below w.heap.size w w' := by
  obtain ⟨t, ht⟩ : ∃ t, t = numV hi lo / 18446744073709551616 := ⟨_, rfl⟩
  obtain ⟨b, hb⟩ : ∃ b, b = numV hi lo % 18446744073709551616 := ⟨_, rfl⟩
  have hw := fun w => dwords_any hi lo w h1 h2
  rw [← ht, ← hb] at hw
  obtain ⟨u, hu⟩ : ∃ u, u = IntKind.u64.wrap t := ⟨_, rfl⟩
  have bu : 0 ≤ u ∧ u < 18446744073709551616 := by rw [hu, wrap_u64]; omega
  obtain ⟨s1, k1, r1, e1, e2⟩ := sub64 0 b 0 (by omega) (by omega) (by omega)
  obtain ⟨s2, k2, r2, e3, e4⟩ := sub64 0 u k1 (by omega) bu (by rw [e2]; split <;> omega)
  have hval : s2 * 18446744073709551616 + s1 = -(numV hi lo) := by
    have hk : k1 = 0 ∧ b = 0 ∨ k1 = 1 ∧ 0 < b := by
      rw [e2]; split <;> omega
    rw [wrap_u64] at hu
    unfold numV at *
    rcases hk with ⟨hk, hb0⟩ | ⟨hk, hb0⟩ <;> omega
  have ht0 : t < 0 := by omega
  obtain ⟨m, hm⟩ : ∃ m : Nat, m = (numV hi lo).natAbs := ⟨_, rfl⟩
  have hmv : s2 * 18446744073709551616 + s1 = (m : Int) := by omega
  have hm0 : m ≠ 0 := by omega
  have hres : Lib.itoa (numV hi lo) = 45 :: Lib.decDigits m := by rw [hm]; unfold Lib.itoa; rw [if_pos hneg]
  have bs1 : 0 ≤ s1 ∧ s1 < 18446744073709551616 := by omega
  have bs2 : 0 ≤ s2 ∧ s2 < 18446744073709551616 := by omega
  have R1 := Lib.hid r1
  have R2 := Lib.hid r2
  have Hm0 := Lib.hid hm0
  have hm40 : m < 10 ^ 40 := by unfold numV at hm; omega
  have Hm40 := Lib.hid hm40
  clear hm40
  have Hres := Lib.hid hres
  have Hmv := Lib.hid hmv
  have Bs1 := Lib.hid bs1
  have Bs2 := Lib.hid bs2
  have Hw := Lib.hid hw
  have Hu := Lib.hid hu
  clear hw r1 r2 e1 e2 e3 e4 hu hval hneg ht hb bu h1 h2 hm hmv hm0 hres bs1 bs2
  go_enter Tryz.func65, Tryz.ntmps65
  go_wp2_with fail
  refine (Hw.out _).mono ?_
  rintro e w2 ⟨rfl, hb2⟩
  go_wp2_with fail
  rw [R1.out]
  rw [Oper.upon_value]
  go_wp2_with fail
  rw [← Hu.out, R2.out]
  rw [Oper.upon_value]
  go_wp2_with fail
  have hbel : Below w.heap.size w w2 := ((Below.refl _ w).alloc (Nat.le_refl _) _).trans (hb2.mono (by simp))
  have Hbel := Lib.hid hbel
  clear hb2 hbel
  go_loopw [4, 6, 8, 9, 10] (fun v4 v6 v8 _ _ wr => ∃ (U B : Int) (M : Nat) (T : ByteArray), v6 = .int .u64 U ∧ v4 = .int .u64 B ∧ v8 = .string T ∧ Hid (0 ≤ U ∧ U < 18446744073709551616 ∧ 0 ≤ B ∧ B < 18446744073709551616 ∧ U * 18446744073709551616 + B = (M : Int)) ∧ WrSt m M T ∧ Below w.heap.size w wr)
    (fun v4 v6 v8 _ _ _ => ((intOf v6) * 18446744073709551616 + intOf v4).toNat + (match v8 with | .string s => if s.size = 0 then 1 else 0 | _ => 0))
  case atStart => exact ⟨s2, s1, m, ⟨#[]⟩, rfl, rfl, rfl, Lib.hid ⟨Bs2.out.1, Bs2.out.2, Bs1.out.1, Bs1.out.2, Hmv.out⟩, .inl ⟨rfl, rfl⟩, Hbel.out⟩
  case round =>
    obtain ⟨U, B, M, T, rfl, rfl, rfl, hUB, hst, hbel⟩ := hrel
    have hd := fun w => div10_any (U % 10) B w (by omega) (by have := hUB.out; omega)
    obtain ⟨N, hN⟩ : ∃ N, N = (U % 10 * 18446744073709551616 + B) / 10 := ⟨_, rfl⟩
    obtain ⟨r, hr⟩ : ∃ r, r = (U % 10 * 18446744073709551616 + B) % 10 := ⟨_, rfl⟩
    rw [← hN, ← hr] at hd
    have hMv : (M : Int) = U * 18446744073709551616 + B := hUB.out.2.2.2.2.symm
    have hrM : r = ((M % 10 : Nat) : Int) := by omega
    have hnM : U / 10 * 18446744073709551616 + N = ((M / 10 : Nat) : Int) := by omega
    have hrb : 0 ≤ r ∧ r < 10 := by omega
    have hNb : 0 ≤ N ∧ N < 18446744073709551616 := by have := hUB.out; omega
    have hU10 : 0 ≤ U / 10 ∧ U / 10 < 18446744073709551616 := by have := hUB.out; omega
    have hdg : digB r.toNat = digB (M % 10) := by rw [hrM, Int.toNat_natCast]
    have hUq : IntKind.u64.wrap (U.tdiv 10) = U / 10 := by have := hUB.out; rw [wrap_u64, Int.tdiv_eq_ediv_of_nonneg (by omega)]; omega
    have hconv := fun w => conv_rune r hrb w
    have hmeas : ∀ T' : ByteArray, T'.size ≠ 0 → (M ≠ 0 ∨ T.size = 0) → (U / 10 * 18446744073709551616 + N).toNat + (if T'.size = 0 then 1 else 0) < (U * 18446744073709551616 + B).toNat + (if T.size = 0 then 1 else 0) := by
      intro T' hT' hne
      rw [hnM, ← hMv, if_neg hT']
      rcases hne with h | h
      · split <;> omega
      · rw [if_pos h]; omega
    have hu0 : 0 ≤ U := hUB.out.1
    have hTs : T.size ≤ 40 := hst.few Hm40.out
    have hds : (digB r.toNat).size = 1 := rfl
    have hsz : (digB r.toNat).size + T.size ≤ 41 := by omega
    have hsz45 : (⟨#[45]⟩ : ByteArray).size + T.size ≤ 41 := by have : (⟨#[45]⟩ : ByteArray).size = 1 := rfl; omega
    have hsz0 : (⟨#[]⟩ : ByteArray).size + T.size ≤ 41 := by have : (⟨#[]⟩ : ByteArray).size = 0 := rfl; omega
    have Hds := Lib.hid hds
    clear hds
    have hr0 : 0 ≤ r := hrb.1
    have hr9 : r < 10 := hrb.2
    have Hd := Lib.hid hd
    have HN := Lib.hid hN
    have Hr := Lib.hid hr
    have HMv := Lib.hid hMv
    have HrM := Lib.hid hrM
    have HnM := Lib.hid hnM
    have HNb := Lib.hid hNb
    have HU10 := Lib.hid hU10
    have Hdg := Lib.hid hdg
    have HUq := Lib.hid hUq
    have Hmeas := Lib.hid hmeas
    have Hst := Lib.hid hst
    clear hd hN hr hMv hrM hnM hNb hU10 hdg hUq hmeas hst hrb
    have fin : ∀ (W : World), Below w.heap.size w W → (M ≠ 0 ∨ T.size = 0) → ∃ (U' B' : Int) (M' : Nat) (T' : ByteArray), Value.int .u64 (U / 10) = .int .u64 U' ∧ Value.int .u64 N = .int .u64 B' ∧ Value.string (digB r.toNat ++ T) = .string T' ∧ Hid (0 ≤ U' ∧ U' < 18446744073709551616 ∧ 0 ≤ B' ∧ B' < 18446744073709551616 ∧ U' * 18446744073709551616 + B' = (M' : Int)) ∧ WrSt m M' T' ∧ Below w.heap.size w W := fun W hW hne =>
      ⟨U / 10, N, M / 10, digB r.toNat ++ T, rfl, rfl, rfl, Lib.hid ⟨HU10.out.1, HU10.out.2, HNb.out.1, HNb.out.2, HnM.out⟩, by rw [Hdg.out]; exact Hst.out.step hne, hW⟩
    have Fin := Lib.hid fin
    clear fin
    have Lnil : T.size = 0 → T.toList = [] := fun h => by rw [ByteArray.toList_eq]; exact List.eq_nil_of_length_eq_zero h
    have Lne : T.size ≠ 0 → ¬ T.toList = [] := fun h e => h (by rw [ByteArray.toList_eq] at e; have h2 : T.data.toList.length = T.size := Array.length_toList; rw [e] at h2; simpa using h2.symm)
    have HLnil := Lib.hid Lnil
    have HLne := Lib.hid Lne
    clear Lnil Lne
    by_cases c1 : U = 0
    · by_cases c2 : B = 0
      · by_cases c3 : T.size = 0
        · have hne : M ≠ 0 ∨ T.size = 0 := .inr c3
          have d1 : (U != 0) = false := by rw [bne_eq_false_iff_eq]; exact c1
          have d2 : (B != 0) = false := by rw [bne_eq_false_iff_eq]; exact c2
          have d3 : T.toList = [] := HLnil.out c3
          have d4 : T.toList.isEmpty = true := by rw [d3]; rfl
          have Hne := Lib.hid hne
          clear c1 c2 c3 hne
          go_wp2_with fail
          refine (Hd.out _).mono ?_
          rintro e w3 ⟨rfl, nq, rfl⟩
          go_wp2_with fail
          rw [HUq.out]
          exact ⟨Fin.out _ (belowDN' hbel nq) Hne.out, Hmeas.out _ (by rw [digB_size]; omega) Hne.out⟩
        · have hM0 : M = 0 := by have g1 := HMv.out; omega
          have hTd : T = ⟨(Lib.decDigits m).toArray⟩ := (hM0 ▸ Hst.out).done c3
          have d1 : (U != 0) = false := by rw [bne_eq_false_iff_eq]; exact c1
          have d2 : (B != 0) = false := by rw [bne_eq_false_iff_eq]; exact c2
          have d3 : ¬ T.toList = [] := HLne.out c3
          have d4 : T.toList.isEmpty = false := by simpa using d3
          have HTd := Lib.hid hTd
          clear c1 c2 c3 hM0 hTd
          have d5 : ¬ T.toList = [48] := fun e => Hm0.out (dec_eq48 m (HTd.out ▸ e))
          have d6 : (T.toList == [48]) = false := by rw [beq_eq_false_iff_ne]; exact d5
          go_wp2
          go_ret
          refine ⟨?_, hbel⟩
          rw [Hres.out]
          exact ret_s (by rw [HTd.out]; exact cat_list [45] _)
      · have hne : M ≠ 0 ∨ T.size = 0 := .inl (by have g1 := HMv.out; have g2 := hUB.out; omega)
        have d1 : (U != 0) = false := by rw [bne_eq_false_iff_eq]; exact c1
        have d2 : (B != 0) = true := by rw [bne_iff_ne]; exact c2
        have Hne := Lib.hid hne
        clear c1 c2 hne
        go_wp2_with fail
        refine (Hd.out _).mono ?_
        rintro e w3 ⟨rfl, nq, rfl⟩
        go_wp2_with fail
        rw [HUq.out]
        exact ⟨Fin.out _ (belowDN' hbel nq) Hne.out, Hmeas.out _ (by rw [digB_size]; omega) Hne.out⟩
    · have hne : M ≠ 0 ∨ T.size = 0 := .inl (by have g1 := HMv.out; have g2 := hUB.out; omega)
      have d1 : (U != 0) = true := by rw [bne_iff_ne]; exact c1
      have Hne := Lib.hid hne
      clear c1 hne
      go_wp2_with fail
      refine (Hd.out _).mono ?_
      rintro e w3 ⟨rfl, nq, rfl⟩
      go_wp2_with fail
      rw [HUq.out]
      exact ⟨Fin.out _ (belowDN' hbel nq) Hne.out, Hmeas.out _ (by rw [digB_size]; omega) Hne.out⟩

set_option maxHeartbeats 8000000 in
set_option maxRecDepth 100000 in
theorem write_pos (hi lo : Int) (w : World) (h1 : -9223372036854775808 ≤ hi ∧ hi ≤ 9223372036854775807) (h2 : -9223372036854775808 ≤ lo ∧ lo ≤ 9223372036854775807) (hneg : 0 ≤ numV hi lo) :
    Calls Tryz.prog 65 #[.agg #[.int .i64 hi, .int .i64 lo]] w fun e w' => e = .returned (.string ⟨(Lib.itoa (numV hi lo)).toArray⟩) ∧ Below w.heap.size w w' := by
  obtain ⟨t, ht⟩ : ∃ t, t = numV hi lo / 18446744073709551616 := ⟨_, rfl⟩
  obtain ⟨b, hb⟩ : ∃ b, b = numV hi lo % 18446744073709551616 := ⟨_, rfl⟩
  have hw := fun w => dwords_any hi lo w h1 h2
  rw [← ht, ← hb] at hw
  obtain ⟨u, hu⟩ : ∃ u, u = IntKind.u64.wrap t := ⟨_, rfl⟩
  have bu : 0 ≤ u ∧ u < 18446744073709551616 := by rw [hu, wrap_u64]; omega
  have ht0 : 0 ≤ t := by omega
  obtain ⟨s1, hs1⟩ : ∃ s1, s1 = b := ⟨_, rfl⟩
  obtain ⟨s2, hs2⟩ : ∃ s2, s2 = u := ⟨_, rfl⟩
  obtain ⟨m, hm⟩ : ∃ m : Nat, m = (numV hi lo).natAbs := ⟨_, rfl⟩
  have hmv : s2 * 18446744073709551616 + s1 = (m : Int) := by
    rw [wrap_u64] at hu
    unfold numV at *
    omega
  have hres : Lib.itoa (numV hi lo) = Lib.decDigits m := by
    have e : (numV hi lo).toNat = m := by omega
    unfold Lib.itoa; rw [if_neg (by omega), e]
  have bs1 : 0 ≤ s1 ∧ s1 < 18446744073709551616 := by omega
  have bs2 : 0 ≤ s2 ∧ s2 < 18446744073709551616 := by omega
  have Hs1 := Lib.hid hs1
  have Hs2 := Lib.hid hs2
  have hm40 : m < 10 ^ 40 := by unfold numV at hm; omega
  have Hm40 := Lib.hid hm40
  clear hm40
  have Hres := Lib.hid hres
  have Hmv := Lib.hid hmv
  have Bs1 := Lib.hid bs1
  have Bs2 := Lib.hid bs2
  have Hw := Lib.hid hw
  have Hu := Lib.hid hu
  clear hw hu hneg ht hb bu h1 h2 hm hmv hres bs1 bs2 hs1 hs2
  go_enter Tryz.func65, Tryz.ntmps65
  go_wp2_with fail
  refine (Hw.out _).mono ?_
  rintro e w2 ⟨rfl, hb2⟩
  go_wp2_with fail
  rw [← Hu.out, ← Hs1.out, ← Hs2.out]
  have hbel : Below w.heap.size w w2 := ((Below.refl _ w).alloc (Nat.le_refl _) _).trans (hb2.mono (by simp))
  have Hbel := Lib.hid hbel
  clear hb2 hbel
  go_loopw [4, 6, 8, 9, 10] (fun v4 v6 v8 _ _ wr => ∃ (U B : Int) (M : Nat) (T : ByteArray), v6 = .int .u64 U ∧ v4 = .int .u64 B ∧ v8 = .string T ∧ Hid (0 ≤ U ∧ U < 18446744073709551616 ∧ 0 ≤ B ∧ B < 18446744073709551616 ∧ U * 18446744073709551616 + B = (M : Int)) ∧ WrSt m M T ∧ Below w.heap.size w wr)
    (fun v4 v6 v8 _ _ _ => ((intOf v6) * 18446744073709551616 + intOf v4).toNat + (match v8 with | .string s => if s.size = 0 then 1 else 0 | _ => 0))
  case atStart => exact ⟨s2, s1, m, ⟨#[]⟩, rfl, rfl, rfl, Lib.hid ⟨Bs2.out.1, Bs2.out.2, Bs1.out.1, Bs1.out.2, Hmv.out⟩, .inl ⟨rfl, rfl⟩, Hbel.out⟩
  case round =>
    obtain ⟨U, B, M, T, rfl, rfl, rfl, hUB, hst, hbel⟩ := hrel
    have hd := fun w => div10_any (U % 10) B w (by omega) (by have := hUB.out; omega)
    obtain ⟨N, hN⟩ : ∃ N, N = (U % 10 * 18446744073709551616 + B) / 10 := ⟨_, rfl⟩
    obtain ⟨r, hr⟩ : ∃ r, r = (U % 10 * 18446744073709551616 + B) % 10 := ⟨_, rfl⟩
    rw [← hN, ← hr] at hd
    have hMv : (M : Int) = U * 18446744073709551616 + B := hUB.out.2.2.2.2.symm
    have hrM : r = ((M % 10 : Nat) : Int) := by omega
    have hnM : U / 10 * 18446744073709551616 + N = ((M / 10 : Nat) : Int) := by omega
    have hrb : 0 ≤ r ∧ r < 10 := by omega
    have hNb : 0 ≤ N ∧ N < 18446744073709551616 := by have := hUB.out; omega
    have hU10 : 0 ≤ U / 10 ∧ U / 10 < 18446744073709551616 := by have := hUB.out; omega
    have hdg : digB r.toNat = digB (M % 10) := by rw [hrM, Int.toNat_natCast]
    have hUq : IntKind.u64.wrap (U.tdiv 10) = U / 10 := by have := hUB.out; rw [wrap_u64, Int.tdiv_eq_ediv_of_nonneg (by omega)]; omega
    have hconv := fun w => conv_rune r hrb w
    have hmeas : ∀ T' : ByteArray, T'.size ≠ 0 → (M ≠ 0 ∨ T.size = 0) → (U / 10 * 18446744073709551616 + N).toNat + (if T'.size = 0 then 1 else 0) < (U * 18446744073709551616 + B).toNat + (if T.size = 0 then 1 else 0) := by
      intro T' hT' hne
      rw [hnM, ← hMv, if_neg hT']
      rcases hne with h | h
      · split <;> omega
      · rw [if_pos h]; omega
    have hu0 : 0 ≤ U := hUB.out.1
    have hTs : T.size ≤ 40 := hst.few Hm40.out
    have hds : (digB r.toNat).size = 1 := rfl
    have hsz : (digB r.toNat).size + T.size ≤ 41 := by omega
    have hsz45 : (⟨#[45]⟩ : ByteArray).size + T.size ≤ 41 := by have : (⟨#[45]⟩ : ByteArray).size = 1 := rfl; omega
    have hsz0 : (⟨#[]⟩ : ByteArray).size + T.size ≤ 41 := by have : (⟨#[]⟩ : ByteArray).size = 0 := rfl; omega
    have Hds := Lib.hid hds
    clear hds
    have hr0 : 0 ≤ r := hrb.1
    have hr9 : r < 10 := hrb.2
    have Hd := Lib.hid hd
    have HN := Lib.hid hN
    have Hr := Lib.hid hr
    have HMv := Lib.hid hMv
    have HrM := Lib.hid hrM
    have HnM := Lib.hid hnM
    have HNb := Lib.hid hNb
    have HU10 := Lib.hid hU10
    have Hdg := Lib.hid hdg
    have HUq := Lib.hid hUq
    have Hmeas := Lib.hid hmeas
    have Hst := Lib.hid hst
    clear hd hN hr hMv hrM hnM hNb hU10 hdg hUq hmeas hst hrb
    have fin : ∀ (W : World), Below w.heap.size w W → (M ≠ 0 ∨ T.size = 0) → ∃ (U' B' : Int) (M' : Nat) (T' : ByteArray), Value.int .u64 (U / 10) = .int .u64 U' ∧ Value.int .u64 N = .int .u64 B' ∧ Value.string (digB r.toNat ++ T) = .string T' ∧ Hid (0 ≤ U' ∧ U' < 18446744073709551616 ∧ 0 ≤ B' ∧ B' < 18446744073709551616 ∧ U' * 18446744073709551616 + B' = (M' : Int)) ∧ WrSt m M' T' ∧ Below w.heap.size w W := fun W hW hne =>
      ⟨U / 10, N, M / 10, digB r.toNat ++ T, rfl, rfl, rfl, Lib.hid ⟨HU10.out.1, HU10.out.2, HNb.out.1, HNb.out.2, HnM.out⟩, by rw [Hdg.out]; exact Hst.out.step hne, hW⟩
    have Fin := Lib.hid fin
    clear fin
    have Lnil : T.size = 0 → T.toList = [] := fun h => by rw [ByteArray.toList_eq]; exact List.eq_nil_of_length_eq_zero h
    have Lne : T.size ≠ 0 → ¬ T.toList = [] := fun h e => h (by rw [ByteArray.toList_eq] at e; have h2 : T.data.toList.length = T.size := Array.length_toList; rw [e] at h2; simpa using h2.symm)
    have HLnil := Lib.hid Lnil
    have HLne := Lib.hid Lne
    clear Lnil Lne
    by_cases c1 : U = 0
    · by_cases c2 : B = 0
      · by_cases c3 : T.size = 0
        · have hne : M ≠ 0 ∨ T.size = 0 := .inr c3
          have d1 : (U != 0) = false := by rw [bne_eq_false_iff_eq]; exact c1
          have d2 : (B != 0) = false := by rw [bne_eq_false_iff_eq]; exact c2
          have d3 : T.toList = [] := HLnil.out c3
          have d4 : T.toList.isEmpty = true := by rw [d3]; rfl
          have Hne := Lib.hid hne
          clear c1 c2 c3 hne
          go_wp2_with fail
          refine (Hd.out _).mono ?_
          rintro e w3 ⟨rfl, nq, rfl⟩
          go_wp2_with fail
          rw [HUq.out]
          exact ⟨Fin.out _ (belowDN' hbel nq) Hne.out, Hmeas.out _ (by rw [digB_size]; omega) Hne.out⟩
        · have hM0 : M = 0 := by have g1 := HMv.out; omega
          have hTd : T = ⟨(Lib.decDigits m).toArray⟩ := (hM0 ▸ Hst.out).done c3
          have d1 : (U != 0) = false := by rw [bne_eq_false_iff_eq]; exact c1
          have d2 : (B != 0) = false := by rw [bne_eq_false_iff_eq]; exact c2
          have d3 : ¬ T.toList = [] := HLne.out c3
          have d4 : T.toList.isEmpty = false := by simpa using d3
          have HTd := Lib.hid hTd
          clear c1 c2 c3 hM0 hTd
          go_wp2
          all_goals
            go_ret
            refine ⟨?_, hbel⟩
            rw [Hres.out]
            exact ret_s (by rw [HTd.out]; exact cat_list [] _)
      · have hne : M ≠ 0 ∨ T.size = 0 := .inl (by have g1 := HMv.out; have g2 := hUB.out; omega)
        have d1 : (U != 0) = false := by rw [bne_eq_false_iff_eq]; exact c1
        have d2 : (B != 0) = true := by rw [bne_iff_ne]; exact c2
        have Hne := Lib.hid hne
        clear c1 c2 hne
        go_wp2_with fail
        refine (Hd.out _).mono ?_
        rintro e w3 ⟨rfl, nq, rfl⟩
        go_wp2_with fail
        rw [HUq.out]
        exact ⟨Fin.out _ (belowDN' hbel nq) Hne.out, Hmeas.out _ (by rw [digB_size]; omega) Hne.out⟩
    · have hne : M ≠ 0 ∨ T.size = 0 := .inl (by have g1 := HMv.out; have g2 := hUB.out; omega)
      have d1 : (U != 0) = true := by rw [bne_iff_ne]; exact c1
      have Hne := Lib.hid hne
      clear c1 hne
      go_wp2_with fail
      refine (Hd.out _).mono ?_
      rintro e w3 ⟨rfl, nq, rfl⟩
      go_wp2_with fail
      rw [HUq.out]
      exact ⟨Fin.out _ (belowDN' hbel nq) Hne.out, Hmeas.out _ (by rw [digB_size]; omega) Hne.out⟩
end Go.Proofs.YtjdgfdpbiidldaaGreatDoor

namespace Go.Proofs.YtjdgfdpbiidldaaGreatDoor
open Go.RowKit

/-- a block of one of these kinds -/
def Touches (ts : List TypeId) (m : Bool) : Obj → Prop
  | .cells _ e _ => e ∈ ts
  | .map _ _ => m = true
  | _ => False

/-- all blocks of other kinds stand as they stood -/
def Keeps (ts : List TypeId) (m : Bool) (w w' : World) : Prop := ∀ (k : Nat) (o : Obj), w.heap[k]? = some o → ¬ Touches ts m o → w'.heap[k]? = some o

theorem Keeps.refl (ts : List TypeId) (m : Bool) (w : World) : Keeps ts m w w := fun _ _ h _ => h
theorem Keeps.trans {ts : List TypeId} {m : Bool} {a b c : World} (h : Keeps ts m a b) (k : Keeps ts m b c) : Keeps ts m a c := fun i o hi ho => k i o (h i o hi ho) ho
theorem Touches.mono {ts ts' : List TypeId} {m m' : Bool} (h : ∀ t ∈ ts, t ∈ ts') (hm : m = true → m' = true) {o : Obj} (ho : Touches ts m o) : Touches ts' m' o := by
  cases o <;> simp_all [Touches]
theorem Keeps.mono {ts ts' : List TypeId} {m m' : Bool} {w w' : World} (k : Keeps ts m w w') (h : ∀ t ∈ ts, t ∈ ts') (hm : m = true → m' = true) : Keeps ts' m' w w' :=
  fun i o hi ho => k i o hi (fun hx => ho (hx.mono h hm))
theorem Keeps.drew {ts : List TypeId} {m : Bool} {a w : World} (h : Keeps ts m a w) : Keeps ts m a w.drew := h
theorem keeps_alloc (ts : List TypeId) (m : Bool) (w : World) (o : Obj) : Keeps ts m w (w.alloc o) := by
  intro k x hk _
  exact (Lib.alloc_old w o k (Array.getElem?_eq_some_iff.1 hk).1).trans hk
theorem Keeps.alloc {ts : List TypeId} {m : Bool} {a w : World} (h : Keeps ts m a w) (o : Obj) : Keeps ts m a (w.alloc o) := h.trans (keeps_alloc ts m w o)
theorem Keeps.setCell {ts : List TypeId} {m : Bool} {a w : World} (h : Keeps ts m a w) (p : Addr) {cs : Array Value} {e : TypeId} {fz : Nat × Nat} (hp : w.heap[p.block]? = some (.cells cs e fz)) (he : e ∈ ts) (v : Value) : Keeps ts m a (w.setCell p v) := by
  refine h.trans ?_
  intro k x hk hx
  rw [Below.heap_setCell _ _ _ _ (fun e' => hx ?_)]
  · exact hk
  · rw [e', hp] at hk
    cases hk
    exact he
theorem Keeps.grown {ts : List TypeId} {m : Bool} {a w w' : World} {row : Option Nat} (h : Keeps ts m a w) (hg : w.grownBy w' row) (hr : ∀ g o, row = some g → w.heap[g]? = some o → Touches ts m o) : Keeps ts m a w' := by
  refine h.trans ?_
  intro k x hk hx
  rw [hg.block k (Array.getElem?_eq_some_iff.1 hk).1 (fun e => hx (hr k x e.symm hk))]
  exact hk
/-- an owned row's block is of the row's kind -/
theorem ownsRow_kind {w : World} {B : Nat} {e : TypeId} {sz : Nat} {v : Value} {n : Nat} {xs : List Value} (h : w.ownsRow B e sz v n xs) : ∀ g o, v.ownBlock = some g → w.heap[g]? = some o → ∃ c, o = .cells c e (0, 0) := by
  intro g o hg ho
  rcases h.2 with ⟨rfl, _⟩ | ⟨g', cap, cur, rfl, _, hh, _⟩
  · simp [Value.ownBlock] at hg
  · simp [Value.ownBlock] at hg
    subst hg
    exact ⟨cur, by rw [hh] at ho; exact (Option.some.inj ho).symm⟩
/-- what is owned stays owned where its block is kept -/
theorem ownsRow_keeps {w w' : World} {B : Nat} {e : TypeId} {sz : Nat} {v : Value} {n : Nat} {xs : List Value} (h : w.ownsRow B e sz v n xs) {ts : List TypeId} {m : Bool} (k : Keeps ts m w w') (he : e ∉ ts) : w'.ownsRow B e sz v n xs := by
  refine ⟨h.1, ?_⟩
  rcases h.2 with hn | ⟨g, cap, cur, hv, hg, hh, r⟩
  · exact .inl hn
  · exact .inr ⟨g, cap, cur, hv, hg, k g _ hh (by simpa [Touches] using he), r⟩
theorem ownsRow_same {w w' : World} {B : Nat} {e : TypeId} {sz : Nat} {v : Value} {n : Nat} {xs : List Value} (h : w.ownsRow B e sz v n xs) (hs : ∀ g, v.ownBlock = some g → w'.heap[g]? = w.heap[g]?) : w'.ownsRow B e sz v n xs := by
  refine ⟨h.1, ?_⟩
  rcases h.2 with hn | ⟨g, cap, cur, rfl, hg, hh, r⟩
  · exact .inl hn
  · exact .inr ⟨g, cap, cur, rfl, hg, (hs g rfl).trans hh, r⟩
/-- an owned value's shape -/
theorem ownsRow_shape {w : World} {B : Nat} {e : TypeId} {sz : Nat} {v : Value} {n : Nat} {xs : List Value} (h : w.ownsRow B e sz v n xs) :
    (v = .slice none 0 0 ∧ n = 0) ∨ ∃ g cap cur, v = .slice (some ⟨g, 0, none⟩) n cap ∧ B ≤ g ∧ w.heap[g]? = some (.cells cur e (0, 0)) ∧ n ≤ cap := by
  rcases h.2 with hn | ⟨g, cap, cur, hv, hg, hh, hc, _⟩
  · exact .inl hn
  · exact .inr ⟨g, cap, cur, hv, hg, hh, hc⟩
theorem ownsRow_len {w : World} {B : Nat} {e : TypeId} {sz : Nat} {v : Value} {n : Nat} {xs : List Value} (h : w.ownsRow B e sz v n xs) : ∃ ao cap, v = .slice ao n cap := by
  rcases ownsRow_shape h with ⟨rfl, rfl⟩ | ⟨g, cap, cur, rfl, _⟩
  · exact ⟨_, _, rfl⟩
  · exact ⟨_, _, rfl⟩
theorem ownsRow_mono {w : World} {B B' : Nat} {e : TypeId} {sz : Nat} {v : Value} {n : Nat} {xs : List Value} (h : w.ownsRow B e sz v n xs) (hB : B' ≤ B) : w.ownsRow B' e sz v n xs := by
  refine ⟨h.1, ?_⟩
  rcases h.2 with hn | ⟨g, cap, cur, hv, hg, r⟩
  · exact .inl hn
  · exact .inr ⟨g, cap, cur, hv, Nat.le_trans hB hg, r⟩

/-- rows of structs: the cells of element i -/
theorem flatMap_at {α : Type} (f : α → List Value) (n : Nat) (hf : ∀ a, (f a).length = n) : ∀ (l : List α) (i c : Nat) (a : α), l[i]? = some a → c < n → (l.flatMap f)[i * n + c]? = (f a)[c]?
  | [], i, c, a, h, _ => by simp at h
  | x :: l, 0, c, a, h, hc => by
    simp at h; subst h
    simp only [List.flatMap_cons, Nat.zero_mul, Nat.zero_add]
    rw [List.getElem?_append_left (by rw [hf]; exact hc)]
  | x :: l, i + 1, c, a, h, hc => by
    simp only [List.flatMap_cons]
    have e : (i + 1) * n + c = n + (i * n + c) := by rw [Nat.succ_mul]; omega
    rw [List.getElem?_append_right (by rw [hf, e]; omega), hf, e, Nat.add_sub_cancel_left]
    exact flatMap_at f n hf l i c a (by simpa using h) hc
theorem flatMap_len {α : Type} (f : α → List Value) (n : Nat) (hf : ∀ a, (f a).length = n) : ∀ (l : List α), (l.flatMap f).length = l.length * n
  | [] => by simp
  | x :: l => by simp only [List.flatMap_cons, List.length_append, hf, flatMap_len f n hf l, List.length_cons, Nat.succ_mul]; omega

/-- append on a row that the call owns: and the row is the old one, or a new one -/
theorem run_append_which {P : Program} (w : World) (base : Nat) (t ty e : TypeId) (i : TypeInfo) (z : Value) (size bytes : Nat) (ht : P.underlying t = some (.slice e)) (hi : P.info? e = some i) (hz : i.zero = some z)
    (hsize : i.size = size) (hby : i.bytes = bytes) (hzs : z.cells.size = size) (hsz : 0 < size)
    (v : Value) (n : Nat) (xs : List Value) (hown : w.ownsRow base e size v n xs)
    (a : Addr) (m c : Nat) (news : List Value) (hl : news.length = m * size) (hnews : ∀ j u, news[j]? = some u → w.cell? (a.add j) = some u) (h1 : ∀ u ∈ news, u.oneCell' = true)
    (h63 : n + m ≤ maxLen) (hbytes : (n + m) * bytes ≤ 140737488355328) (hbase : base ≤ w.heap.size) :
    ∃ v' w', (Builtin.append_ #[t, t] ty #[v, .slice (some a) m c]).run P w = .ok v' w' ∧ w'.ownsRow base e size v' (n + m) (xs ++ news) ∧ w.grownBy w' v.ownBlock ∧
      (∀ g, v'.ownBlock = some g → v.ownBlock = some g ∨ w.heap.size ≤ g) := by
  obtain ⟨v', w', hrun, r1, r2, _⟩ := run_append_own (P := P) w base t ty e i z size bytes ht hi hz hsize hby hzs hsz v n xs hown a m c news hl hnews h1 h63 hbytes hbase
  refine ⟨v', w', hrun, r1, r2, ?_⟩
  rcases hown.2 with ⟨rfl, rfl⟩ | ⟨g, cap, cur, rfl, hbg, hg, hnc, hcm, hcs, htake⟩
  · have hx : xs = [] := List.eq_nil_of_length_eq_zero (by simpa using hown.1)
    subst hx
    obtain ⟨v2, w2, hrun2, q1, _, _⟩ := run_append_own (P := P) w w.heap.size t ty e i z size bytes ht hi hz hsize hby hzs hsz (.slice none 0 0) 0 [] (World.ownsRow_nil w _ e size) a m c news hl hnews h1 h63 hbytes (Nat.le_refl _)
    rw [hrun] at hrun2
    cases hrun2
    intro g hg
    exact .inr (q1.lt g hg).1
  · by_cases hroom : n + m ≤ cap
    · subst hsize
      have hfit : n * i.size + news.length ≤ cur.size := by rw [hl, hcs, ← Nat.add_mul]; exact Nat.mul_le_mul_right _ hroom
      have hr := run_append_room (P := P) w t ty e i ht hi g n cap cur hg a m c news hl hnews h1 hroom hfit
      rw [hrun] at hr
      cases hr
      intro g' hg'
      exact .inl hg'
    · have holds : ∀ j u, xs[j]? = some u → w.cell? ((⟨g, 0, none⟩ : Addr).add j) = some u := hown.cells (g := g) rfl
      obtain ⟨v2, w2, hrun2, q1, _⟩ := run_append_arg_grows (P := P) w t ty e i z size bytes ht hi hz hsize hby hzs hsz ⟨g, 0, none⟩ n cap xs hown.1 holds a m c news hl hnews (by omega) h63 hbytes
      rw [hrun] at hrun2
      cases hrun2
      intro g hg
      exact .inr (q1.lt g hg).1

/-- the same as a step of a region that draws its order -/
theorem step_append_own {P : Program} {ops : Array Oper} {o : Oper} {a : Act} {w : World} {K : Act → World → Prop} {Q : Exit → Act → World → Prop} {E : Prop}
    (hg : o.guard = none) (s x : Operand) (t : TypeId) (hop : o.op = Op.call { callee := Callee.builtin Builtin.append, args := #[s, x], argTypes := #[t, t] })
    (B : Nat) (e : TypeId) (i : TypeInfo) (z : Value) (size bytes : Nat) (h1 : P.underlying t = some (.slice e)) (h2 : P.info? e = some i) (h3 : i.zero = some z) (h4 : i.size = size) (h5 : i.bytes = bytes) (h6 : z.cells.size = size) (h7 : 0 < size)
    (v : Value) (n : Nat) (xs : List Value) (hs : a.eval s = v) (hown : w.ownsRow B e size v n xs)
    (ad : Addr) (m c : Nat) (news : List Value) (hx : a.eval x = .slice (some ad) m c) (hn : news.length = m * size) (hc : ∀ j u, news[j]? = some u → w.cell? (ad.add j) = some u) (h1c : ∀ u ∈ news, u.oneCell' = true)
    (b1 : n + m ≤ maxLen) (b2 : (n + m) * bytes ≤ 140737488355328) (hB : B ≤ w.heap.size)
    (hK : ∀ v' w', w'.ownsRow B e size v' (n + m) (xs ++ news) → w.grownBy w' v.ownBlock → (∀ g, v'.ownBlock = some g → v.ownBlock = some g ∨ w.heap.size ≤ g) → K (a.put o.dst v') w') :
    if Region.wanted o (yielded ops a.tmps) = true then Oper.wp P o a w K Q else E := by
  have hw : Region.wanted o (yielded ops a.tmps) = true := by simp [Region.wanted, hg]
  rw [if_pos hw]
  obtain ⟨v', w', hrun, r1, r2, r3⟩ := run_append_which (P := P) w B t o.type e i z size bytes h1 h2 h3 h4 h5 h6 h7 v n xs hown ad m c news hn hc h1c b1 b2 hB
  unfold Oper.wp
  simp [execOp, hop, resolve, invoke, builtin, hs, hx, hrun, Result.andThen]
  exact hK v' w' r1 r2 r3

/-- the same in a region in the order of the text -/
theorem wpList_append_j {P : Program} {w : World} {ops : Array Oper} {rest : List Oper} {o : Oper} {a : Act} {Q : Exit → Act → World → Prop} (hgd : o.guard = none) (s x : Operand) (t : TypeId)
    (hop : o.op = Op.call { callee := Callee.builtin Builtin.append, args := #[s, x], argTypes := #[t, t] })
    (B : Nat) (e : TypeId) (i : TypeInfo) (z : Value) (size bytes : Nat) (h1 : P.underlying t = some (.slice e)) (h2 : P.info? e = some i) (h3 : i.zero = some z) (h4 : i.size = size) (h5 : i.bytes = bytes) (h6 : z.cells.size = size) (h7 : 0 < size)
    (v : Value) (n : Nat) (xs : List Value) (hs : a.eval s = v) (hown : w.ownsRow B e size v n xs)
    (ad : Addr) (m c : Nat) (news : List Value) (hx : a.eval x = .slice (some ad) m c) (hn : news.length = m * size) (hc : ∀ j u, news[j]? = some u → w.cell? (ad.add j) = some u) (h1c : ∀ u ∈ news, u.oneCell' = true)
    (b1 : n + m ≤ maxLen) (b2 : (n + m) * bytes ≤ 140737488355328) (hB : B ≤ w.heap.size)
    (hK : ∀ v' w', w'.ownsRow B e size v' (n + m) (xs ++ news) → w.grownBy w' v.ownBlock → (∀ g, v'.ownBlock = some g → v.ownBlock = some g ∨ w.heap.size ≤ g) → wpList P ops Q rest (a.put o.dst v') w') : wpList P ops Q (o :: rest) a w := by
  refine wpList_plain hgd fun K' hK' => ?_
  obtain ⟨v', w', hrun, r1, r2, r3⟩ := run_append_which (P := P) w B t o.type e i z size bytes h1 h2 h3 h4 h5 h6 h7 v n xs hown ad m c news hn hc h1c b1 b2 hB
  unfold Oper.wp
  simp [execOp, hop, resolve, invoke, builtin, hs, hx, hrun, Result.andThen]
  exact hK' _ _ (hK v' w' r1 r2 r3)

/-- only the blocks of S, among those that were there, may be another -/
structure Upd (S : Nat → Prop) (w w' : World) : Prop where
  os : w'.os = w.os
  tape : w'.tape = w.tape
  output : w'.output = w.output
  size : w.heap.size ≤ w'.heap.size
  block : ∀ k, k < w.heap.size → ¬ S k → w'.heap[k]? = w.heap[k]?
theorem Upd.refl (S : Nat → Prop) (w : World) : Upd S w w := ⟨rfl, rfl, rfl, Nat.le_refl _, fun _ _ _ => rfl⟩
theorem Upd.trans {S : Nat → Prop} {a b c : World} (h : Upd S a b) (k : Upd S b c) : Upd S a c :=
  ⟨k.os.trans h.os, k.tape.trans h.tape, k.output.trans h.output, Nat.le_trans h.size k.size, fun i hi hs => (k.block i (Nat.lt_of_lt_of_le hi h.size) hs).trans (h.block i hi hs)⟩
theorem Upd.mono {S T : Nat → Prop} {w w' : World} (h : Upd S w w') (hST : ∀ k, k < w.heap.size → S k → T k) : Upd T w w' :=
  ⟨h.os, h.tape, h.output, h.size, fun k hk hn => h.block k hk (fun hs => hn (hST k hk hs))⟩
/-- a second step: what it may write must lie in S where it lay there from the first -/
theorem Upd.then {S T : Nat → Prop} {a b c : World} (h : Upd S a b) (k : Upd T b c) (hT : ∀ i, i < a.heap.size → T i → S i) : Upd S a c :=
  ⟨k.os.trans h.os, k.tape.trans h.tape, k.output.trans h.output, Nat.le_trans h.size k.size, fun i hi hs => (k.block i (Nat.lt_of_lt_of_le hi h.size) (fun ht => hs (hT i hi ht))).trans (h.block i hi hs)⟩
theorem Upd.drew {S : Nat → Prop} {a w : World} (h : Upd S a w) : Upd S a w.drew := ⟨h.os, h.tape, h.output, h.size, h.block⟩
theorem Upd.drewN {S : Nat → Prop} {a w : World} (h : Upd S a w) (n : Nat) : Upd S a (w.drewN n) := ⟨h.os, h.tape, h.output, h.size, h.block⟩
theorem Upd.alloc {S : Nat → Prop} {a w : World} (h : Upd S a w) (o : Obj) : Upd S a (w.alloc o) :=
  h.trans ⟨rfl, rfl, rfl, by simp, fun k hk _ => Lib.alloc_old w o k hk⟩
theorem Upd.setCell {S : Nat → Prop} {a w : World} (h : Upd S a w) {p : Addr} (hp : p.block < a.heap.size → S p.block) (v : Value) : Upd S a (w.setCell p v) :=
  h.then (T := fun k => k = p.block) ⟨rfl, rfl, rfl, by simp [World.setCell], fun k _ hk => Below.heap_setCell _ _ _ _ hk⟩ (fun i hi e => by subst e; exact hp hi)
theorem Upd.grown {S : Nat → Prop} {a w w' : World} {row : Option Nat} (h : Upd S a w) (hg : w.grownBy w' row) (hr : ∀ k, row = some k → k < a.heap.size → S k) : Upd S a w' :=
  h.then (T := fun k => row = some k) ⟨hg.os, hg.tape, hg.output, hg.size, fun k hk hn => hg.block k hk (fun e => hn e.symm)⟩ (fun i hi e => hr i e hi)
theorem Upd.below {S : Nat → Prop} {w w' : World} {B : Nat} (h : Upd S w w') (hB : B ≤ w.heap.size) (hS : ∀ k, k < B → ¬ S k) : Below B w w' :=
  ⟨h.os, h.tape, h.output, h.size, fun k hk => h.block k (Nat.lt_of_lt_of_le hk hB) (hS k hk)⟩
theorem Upd.of_below {w w' : World} {B : Nat} (h : Below B w w') : Upd (fun k => B ≤ k) w w' :=
  ⟨h.os, h.tape, h.output, h.size, fun k _ hn => h.block k (by omega)⟩
theorem Upd.of_all {w w' : World} (h : Below w.heap.size w w') (S : Nat → Prop) : Upd S w w' :=
  ⟨h.os, h.tape, h.output, h.size, fun k hk _ => h.block k hk⟩
theorem Upd.keeps {S : Nat → Prop} {w w' : World} (h : Upd S w w') {ts : List TypeId} {m : Bool} (hS : ∀ k o, S k → w.heap[k]? = some o → Touches ts m o) : Keeps ts m w w' := by
  intro k o hk ho
  rw [h.block k (Array.getElem?_eq_some_iff.1 hk).1 (fun hs => ho (hS k o hs hk))]
  exact hk
theorem heap_set_at {w : World} {b : Nat} {cs : Array Value} {e : TypeId} (hb : w.heap[b]? = some (.cells cs e (0, 0))) (o : Nat) (v : Value) : (w.setCell ⟨b, o, none⟩ v).heap[b]? = some (.cells (cs.setIfInBounds o v) e (0, 0)) :=
  heap_setCell_same w b o cs e v hb

end Go.Proofs.YtjdgfdpbiidldaaGreatDoor

namespace Go.Proofs.YtjdgfdpbiidldaaGreatDoor
open Go.RowKit
open Go.ChangeMaps (setBlock)
namespace JM

section
variable {K : Type} [DecidableEq K]

/-- where a key stands, and what it has -/
def findAt (k : K) : List (K × Value) → Nat → Option (Nat × Value)
  | [], _ => none
  | p :: l, i => if k = p.1 then some (i, p.2) else findAt k l (i + 1)
def get (l : List (K × Value)) (k : K) : Option Value := (findAt k l 0).map (·.2)
def put (l : List (K × Value)) (k : K) (v : Value) : List (K × Value) := match findAt k l 0 with | some (i, _) => l.set i (k, v) | none => l ++ [(k, v)]
def del (l : List (K × Value)) (k : K) : List (K × Value) := match findAt k l 0 with | some (i, _) => l.eraseIdx i | none => l

/-- what a kind of keys must meet -/
structure KeyKind (P : Program) (kt : TypeId) (kv : K → Value) : Prop where
  find : ∀ (w : World) (k : K) (l : List (K × Value)) (es : List MapEntry), es.map (fun e => (e.key, e.val)) = l.map (fun p => (kv p.1, p.2)) → (Instr.findKey kt (kv k) es).run P w = .ok (findAt k l 0) w
  check : ∀ (w : World) (b : Bool) (k : K), (Instr.checkKey b 10000 kt (kv k)).run P w = .ok () w
  bits : ∀ k, Instr.sameBits 10000 (kv k) (kv k) = true

/-- block b reads as l -/
def IsM (kv : K → Value) (w : World) (b : Nat) (l : List (K × Value)) : Prop :=
  ∃ es clock, w.heap[b]? = some (.map es clock) ∧ es.toList.map (fun e => (e.key, e.val)) = l.map (fun p => (kv p.1, p.2)) ∧
    (es.toList.map (·.born)).Pairwise (· < ·) ∧ (∀ e ∈ es.toList, e.born < clock) ∧ (l.map (·.1)).Nodup

omit [DecidableEq K] in
theorem IsM.lt {kv : K → Value} {w : World} {b : Nat} {l : List (K × Value)} (h : IsM kv w b l) : b < w.heap.size := by
  obtain ⟨es, clock, hb, _⟩ := h
  exact (Array.getElem?_eq_some_iff.1 hb).1
omit [DecidableEq K] in
theorem IsM.same {kv : K → Value} {w w' : World} {b : Nat} {l : List (K × Value)} (h : IsM kv w b l) (hs : w'.heap[b]? = w.heap[b]?) : IsM kv w' b l := by
  obtain ⟨es, clock, hb, r⟩ := h
  exact ⟨es, clock, hs.trans hb, r⟩
omit [DecidableEq K] in
theorem isM_new {kv : K → Value} (w : World) : IsM kv (w.alloc (.map #[] 0)) w.heap.size [] :=
  ⟨#[], 0, heap_alloc_new w _, by simp, by simp, by simp, by simp⟩

theorem findAt_none {k : K} : ∀ {l : List (K × Value)} {i : Nat}, findAt k l i = none → k ∉ l.map (·.1)
  | [], _, _ => by simp
  | p :: l, i, h => by
    unfold findAt at h
    split at h
    · cases h
    · rename_i hne
      have := findAt_none (l := l) h
      simp only [List.map_cons, List.mem_cons, not_or]
      exact ⟨hne, this⟩
theorem findAt_some {k : K} : ∀ {l : List (K × Value)} {i j : Nat} {v : Value}, findAt k l i = some (j, v) → i ≤ j ∧ l[j - i]? = some (k, v)
  | [], _, _, _, h => by cases h
  | p :: l, i, j, v, h => by
    unfold findAt at h
    split at h
    · rename_i he
      cases h
      refine ⟨Nat.le_refl _, ?_⟩
      rw [Nat.sub_self]; simp [he]
    · obtain ⟨h1, h2⟩ := findAt_some (l := l) h
      refine ⟨by omega, ?_⟩
      have : j - i = (j - (i + 1)) + 1 := by omega
      rw [this]; simpa using h2
theorem put_keys {k : K} {v : Value} {l : List (K × Value)} : (put l k v).map (·.1) = if k ∈ l.map (·.1) then l.map (·.1) else l.map (·.1) ++ [k] := by
  unfold put
  cases h : findAt k l 0 with
  | none => simp [findAt_none h]
  | some p =>
    obtain ⟨i, u⟩ := p
    obtain ⟨_, h2⟩ := findAt_some h
    rw [Nat.sub_zero] at h2
    have hm : k ∈ l.map (·.1) := List.mem_map.2 ⟨(k, u), List.mem_of_getElem? h2, rfl⟩
    rw [if_pos hm]
    obtain ⟨hi, he⟩ := List.getElem?_eq_some_iff.1 h2
    simp only [List.map_set]
    apply List.ext_getElem?
    intro j
    rw [List.getElem?_set]
    split
    · rename_i hij; subst hij; simp [hi, he]
    · rfl
theorem put_nodup {k : K} {v : Value} {l : List (K × Value)} (h : (l.map (·.1)).Nodup) : ((put l k v).map (·.1)).Nodup := by
  rw [put_keys]
  split
  · exact h
  · rename_i hn
    refine List.nodup_append.2 ⟨h, by simp, ?_⟩
    intro a ha b hb
    simp at hb; subst hb
    intro e; subst e; exact hn ha

variable {P : Program} {kt : TypeId} {kv : K → Value} {w : World} {b : Nat} {l : List (K × Value)} {t et : TypeId}

theorem run_lookup (KK : KeyKind P kt kv) (ht : P.underlying t = some (.map kt et)) (h : IsM kv w b l) {z : Value} (hz : (zeroValue et).run P w = .ok z w) (k : K) (c : Bool) :
    (Instr.lookup t (.map (some b)) (kv k) c).run P w = .ok (if c then .tuple #[(get l k).getD z, .bool (get l k).isSome] else (get l k).getD z) w := by
  obtain ⟨es, clock, hb, hes, _⟩ := h
  unfold get
  cases hf : findAt k l 0 with
  | none =>
    have := KK.find w k l es.toList hes
    rw [hf] at this
    cases c <;> simp [Instr.lookup, run_underlying ht, MapKept.run_getObj_map hb, KK.check, this, hz, Result.andThen]
  | some p =>
    have := KK.find w k l es.toList hes
    rw [hf] at this
    cases c <;> simp [Instr.lookup, run_underlying ht, MapKept.run_getObj_map hb, KK.check, this, Result.andThen]

theorem run_lookup_nil (ht : P.underlying t = some (.map kt et)) (KK : KeyKind P kt kv) {z : Value} (hz : (zeroValue et).run P w = .ok z w) (k : K) (c : Bool) :
    (Instr.lookup t (.map none) (kv k) c).run P w = .ok (if c then .tuple #[z, .bool false] else z) w := by
  have := KK.find w k [] [] rfl
  cases c <;> simp [Instr.lookup, run_underlying ht, KK.check, this, hz, Result.andThen, findAt]

theorem run_update (KK : KeyKind P kt kv) (ht : P.underlying t = some (.map kt et)) (h : IsM kv w b l) (k : K) (v : Value) :
    ∃ w', (Instr.mapUpdate t (.map (some b)) (kv k) v).run P w = .ok () w' ∧ IsM kv w' b (put l k v) ∧ w.grownBy w' (some b) := by
  obtain ⟨es, clock, hb, hes, hbn, hlt, hnd⟩ := h
  have hlen : es.toList.length = l.length := by have := congrArg List.length hes; simpa using this
  cases hf : findAt k l 0 with
  | none =>
    have hfk := KK.find w k l es.toList hes
    rw [hf] at hfk
    refine ⟨{ w with heap := w.heap.setIfInBounds b (.map (es.push { key := kv k, val := v, born := clock }) (clock + 1)) }, ?_, ?_, ?_⟩
    · simp [Instr.mapUpdate, run_underlying ht, MapKept.run_getObj_map hb, KK.check, hfk, MapKept.run_setObj_map _ hb, Result.andThen]
    · refine ⟨_, _, (MapKept.heap_set hb).1, ?_, ?_, ?_, put_nodup hnd⟩
      · simp [put, hf, hes]
      · simp only [Array.toList_push, List.map_append, List.map_cons, List.map_nil]
        refine List.pairwise_append.2 ⟨hbn, by simp, ?_⟩
        intro a ha c hc
        simp at hc; subst hc
        obtain ⟨e, he, rfl⟩ := List.mem_map.1 ha
        exact hlt e he
      · intro e he
        simp only [Array.toList_push, List.mem_append, List.mem_singleton] at he
        rcases he with he | rfl
        · have := hlt e he; omega
        · simp
    · exact ⟨rfl, rfl, rfl, by simp, fun j _ hj => (MapKept.heap_set hb).2 j (fun e => hj (by rw [e]))⟩
  | some p =>
    obtain ⟨i, u⟩ := p
    have hfk := KK.find w k l es.toList hes
    rw [hf] at hfk
    obtain ⟨_, h2⟩ := findAt_some hf
    rw [Nat.sub_zero] at h2
    obtain ⟨hi, he⟩ := List.getElem?_eq_some_iff.1 h2
    have hi' : i < es.size := by rw [← Array.length_toList, hlen]; exact hi
    have hki : es[i].key = kv k := by
      have h4 : (es.toList.map (fun e => (e.key, e.val)))[i]? = (l.map (fun p => (kv p.1, p.2)))[i]? := by rw [hes]
      simp only [List.getElem?_map, h2, Option.map_some] at h4
      have h5 : es.toList[i]? = some es[i] := by simp [hi']
      rw [h5] at h4
      simp at h4
      exact h4.1
    have hg : ((es[i]?).map (·.key)).getD (kv k) = kv k := by
      rw [Array.getElem?_eq_getElem hi']; simpa using hki
    refine ⟨{ w with heap := w.heap.setIfInBounds b (.map (es.modify i fun e => { e with key := kv k, val := v }) clock) }, ?_, ?_, ?_⟩
    · have hk1 : (Instr.keyThatStays (((es[i]?).map (·.key)).getD (kv k)) (kv k)).run P w = .ok (kv k) w := by
        rw [hg]; simp [Instr.keyThatStays, KK.bits]
      simp only [Instr.mapUpdate, Sem.run_bind, run_underlying ht, MapKept.run_getObj_map hb, KK.check, hfk, Result.andThen, hk1]
      simp [MapKept.run_setObj_map _ hb]
    · have hmod : (es.modify i fun e => { e with key := kv k, val := v }).toList = es.toList.modify i (fun e => { e with key := kv k, val := v }) := by simp
      refine ⟨_, _, (MapKept.heap_set hb).1, ?_, ?_, ?_, put_nodup hnd⟩
      · rw [hmod]
        simp only [put, hf]
        apply List.ext_getElem?
        intro j
        have h6 : (es.toList.map (fun e => (e.key, e.val)))[j]? = (l.map (fun p => (kv p.1, p.2)))[j]? := by rw [hes]
        simp only [List.getElem?_map] at h6 ⊢
        rw [List.getElem?_modify, List.getElem?_set]
        by_cases hij : i = j
        · subst hij
          simp only [if_true]
          have h5 : es.toList[i]? = some es[i] := by simp [hi']
          rw [h5]; simp [hi]
        · simp only [hij, if_false]
          rw [← h6]; cases es.toList[j]? <;> rfl
      · rw [hmod]
        have : (es.toList.modify i (fun e => { e with key := kv k, val := v })).map (·.born) = es.toList.map (·.born) := by
          apply List.ext_getElem?
          intro j
          simp only [List.getElem?_map, List.getElem?_modify]
          by_cases hij : i = j
          · simp only [hij, if_true]; cases es.toList[j]? <;> rfl
          · simp only [hij, if_false]; cases es.toList[j]? <;> rfl
        rw [this]; exact hbn
      · rw [hmod]
        intro e he
        obtain ⟨j, hj⟩ := List.mem_iff_getElem?.1 he
        rw [List.getElem?_modify] at hj
        cases h7 : es.toList[j]? with
        | none => simp [h7] at hj
        | some e0 =>
          rw [h7] at hj
          have h8 := hlt e0 (List.mem_of_getElem? h7)
          by_cases hij : i = j
          · simp [hij] at hj; subst hj; exact h8
          · simp [hij] at hj; subst hj; exact h8
    · exact ⟨rfl, rfl, rfl, by simp, fun j _ hj => (MapKept.heap_set hb).2 j (fun e => hj (by rw [e]))⟩

omit [DecidableEq K] in
theorem run_len (ht : P.underlying t = some (.map kt et)) (h : IsM kv w b l) (ty : TypeId) : (Builtin.len_ #[t] ty #[.map (some b)]).run P w = .ok (.int .i64 l.length) w := by
  obtain ⟨es, clock, hb, hes, _⟩ := h
  have hlen : es.size = l.length := by have := congrArg List.length hes; simpa using this
  rw [← hlen]
  simp [Builtin.len_, run_underlying ht, MapKept.run_getObj_map hb, goInt, Result.andThen]

end

/-- strings as keys -/
theorem string_kind {P : Program} {kt : TypeId} (hk : P.underlying kt = some .string) : KeyKind (K := ByteArray) P kt Value.string where
  find := by
    intro w k l es h
    have key : ∀ (l : List (ByteArray × Value)) (es : List MapEntry) (i : Nat), es.map (fun e => (e.key, e.val)) = l.map (fun p => (Value.string p.1, p.2)) → Instr.findNow .string (.string k) es i = some (findAt k l i) := by
      intro l
      induction l with
      | nil => intro es i h; cases es with | nil => rfl | cons e es => simp at h
      | cons p l ih =>
        intro es i h
        cases es with
        | nil => simp at h
        | cons e es =>
          simp only [List.map_cons, List.cons.injEq, Prod.mk.injEq] at h
          obtain ⟨⟨h1, h2⟩, h3⟩ := h
          simp only [Instr.findNow, h1, Instr.sameNow, findAt]
          by_cases hkp : k = p.1
          · have : (k == p.1) = true := (MapKept.bytes_beq _ _).2 hkp
            rw [this, if_pos hkp, h2]
          · have : (k == p.1) = false := by
              cases hb : (k == p.1) with
              | false => rfl
              | true => exact absurd ((MapKept.bytes_beq _ _).1 hb) hkp
            rw [this, if_neg hkp]
            exact ih es (i + 1) h3
    exact MapKept.run_findKey hk (key l es 0 h)
  check := fun w b k => by
    unfold Instr.checkKey
    simp [run_underlying hk, Result.andThen]
  bits := fun k => by
    have : (k == k) = true := (MapKept.bytes_beq _ _).2 rfl
    simp [Instr.sameBits, this]

/-- integers of one kind as keys -/
theorem int_kind {P : Program} {kt : TypeId} {q : IntKind} (hk : P.underlying kt = some (.int q)) : KeyKind (K := Int) P kt (Value.int q) where
  find := by
    intro w k l es h
    have key : ∀ (l : List (Int × Value)) (es : List MapEntry) (i : Nat), es.map (fun e => (e.key, e.val)) = l.map (fun p => (Value.int q p.1, p.2)) → Instr.findNow (.int q) (.int q k) es i = some (findAt k l i) := by
      intro l
      induction l with
      | nil => intro es i h; cases es with | nil => rfl | cons e es => simp at h
      | cons p l ih =>
        intro es i h
        cases es with
        | nil => simp at h
        | cons e es =>
          simp only [List.map_cons, List.cons.injEq, Prod.mk.injEq] at h
          obtain ⟨⟨h1, h2⟩, h3⟩ := h
          simp only [Instr.findNow, h1, Instr.sameNow, findAt, if_true]
          by_cases hkp : k = p.1
          · have : (k == p.1) = true := by simpa using hkp
            rw [this, if_pos hkp, h2]
          · have : (k == p.1) = false := by simpa using hkp
            rw [this, if_neg hkp]
            exact ih es (i + 1) h3
    exact MapKept.run_findKey hk (key l es 0 h)
  check := fun w b k => by
    unfold Instr.checkKey
    simp [run_underlying hk, Result.andThen]
  bits := fun k => by simp [Instr.sameBits]
end JM
end Go.Proofs.YtjdgfdpbiidldaaGreatDoor

namespace Go.Proofs.YtjdgfdpbiidldaaGreatDoor
open Go.RowKit

theorem info9 : (Tryz.prog.info? 9).map (fun i => (i.zero, i.size, i.bytes)) = some (some (.string ⟨#[]⟩), 1, 16) := by kernel_rfl

/-- the words that no name may be -/
def fixedWords : List ByteArray := [⟨#[95]⟩, ⟨#[33]⟩, ⟨#[97, 115]⟩, ⟨#[108, 101, 116]⟩, ⟨#[101, 120, 105, 115, 116, 115]⟩, ⟨#[102, 111, 114, 97, 108, 108]⟩, ⟨#[109, 97, 116, 99, 104]⟩, ⟨#[112, 97, 114]⟩, ⟨#[66, 73, 78, 65, 82, 89]⟩, ⟨#[68, 69, 67, 73, 77, 65, 76]⟩, ⟨#[72, 69, 88, 65, 68, 69, 67, 73, 77, 65, 76]⟩, ⟨#[78, 85, 77, 69, 82, 65, 76]⟩, ⟨#[83, 84, 82, 73, 78, 71]⟩]

/-- may a name be, beside some words? -/
def mayB (s : ByteArray) (ws : List ByteArray) : Bool :=
  if h : 0 < s.size then decide (s.size ≤ 1000) && !(((s[0]'h).toNat : Int) == 46) && !(((s[0]'h).toNat : Int) == 64) && !Lib.containsS (ws ++ fixedWords) s else false

theorem toList_nil {s : ByteArray} : s.toList = [] ↔ ¬ 0 < s.size := by
  rw [ByteArray.toList_eq]
  have h : s.data.toList.length = s.size := Array.length_toList
  constructor
  · intro e; rw [e] at h; simp at h; omega
  · intro e; exact List.eq_nil_of_length_eq_zero (by omega)

theorem new_cells (w : World) (l : List Value) (e : TypeId) (j : Nat) (u : Value) (h : l[j]? = some u) : (w.alloc (.cells l.toArray e)).cell? ((⟨w.heap.size, 0, none⟩ : Addr).add j) = some u := by
  have h1 : ((⟨w.heap.size, 0, none⟩ : Addr).add j) = ⟨w.heap.size, j, none⟩ := by unfold Addr.add; split <;> simp_all
  rw [h1]
  have h2 := Lib.cell_of_heap (w := w.alloc (.cells l.toArray e)) (b := w.heap.size) (cs := l.toArray) (T := e) (fr := (0, 0)) (heap_alloc_new w _) j
  rw [h2]; simpa using h

set_option maxHeartbeats 1000000 in
set_option maxRecDepth 100000 in
theorem may_any (B : Nat) (s : ByteArray) (g : Nat) (ws : List ByteArray) (w : World) (hown : w.ownsRow B 9 1 (.slice (some ⟨g, 0, none⟩) ws.length ws.length) ws.length (ws.map Value.string)) (hl : ws.length ≤ 100) (hB : B ≤ w.heap.size) :
    Calls Tryz.prog 103 #[.string s, .slice (some ⟨g, 0, none⟩) ws.length ws.length] w fun e w' => e = .returned (.bool (mayB s ws)) ∧ Below B w w' := by
  obtain ⟨i0, hi, hz0, hz1, hz2⟩ := info_parts info9
  go_enter Tryz.func103, Tryz.ntmps103
  go_wp2_with (at_builtin; refine wpList_append_own _ rfl (.tmp 5) (.tmp 6) 45 rfl B 9 i0 (.string ⟨#[]⟩) 1 16 Tryz.underlying45 hi hz0 hz1 hz2 rfl (by decide) _ _ _ rfl (hown.alloc _) ⟨w.heap.size, 0, none⟩ 13 13 (fixedWords.map Value.string) rfl rfl ?c1 ?c2 ?c3 ?c4 ?c5 ?_)
  case c1 => intro j u hu; exact new_cells w _ 9 j u hu
  case c2 => intro u hu; obtain ⟨x, _, rfl⟩ := List.mem_map.1 hu; rfl
  case c3 => unfold maxLen; omega
  case c4 => omega
  case c5 => simp; omega
  intro v' w1 hown1 hgrow _
  have hb1 : Below B w w1 := (((Below.refl B w).alloc hB _).grown hgrow (by simp; omega) (fun k hk => (hown.lt k hk).1))
  rw [← List.map_append] at hown1
  obtain ⟨g', cap, rfl⟩ : ∃ g' cap, v' = .slice (some ⟨g', 0, none⟩) (ws.length + 13) cap := by
    rcases hown1.2 with ⟨_, h0⟩ | ⟨g', cap, cur, hv, _⟩
    · omega
    · exact ⟨g', cap, hv⟩
  have hcc : ∀ j, j < (ws ++ fixedWords).length → w1.cell? ⟨g', 0 + j, none⟩ = some (.string ((ws ++ fixedWords).getD j ByteArray.empty)) := by
    intro j hj
    have h := hown1.cellAt j (by simpa [fixedWords] using hj)
    rw [Nat.zero_add, h, List.getElem?_map, List.getD_eq_getElem?_getD, List.getElem?_eq_getElem hj]; rfl
  have Hcc := Lib.hid hcc
  clear hcc hown1 hgrow
  by_cases hp : 0 < s.size
  · have hne : ¬ s.toList = [] := fun e => toList_nil.1 e hp
    go_wp2_with (go_at_call 176; refine (Tryz.slices_Contains_string g' 0 (ws.length + 13) cap (ws ++ fixedWords) s _ (by simp [fixedWords]) (by omega) Hcc.out).mono ?_; rintro e w' ⟨rfl, rfl⟩)
    all_goals go_ret
    all_goals refine ⟨?_, hb1⟩
    · have h2 : ((s[0]'hp).toNat : Int) = 46 := by assumption
      simp [mayB, hp, h2]
    · have h2 : ((s[0]'hp).toNat : Int) = 64 := by assumption
      simp [mayB, hp, h2]
    · have h4 : (s.size : Int) ≤ 1000 := by assumption
      have h5 : s.size ≤ 1000 := by omega
      have ht : (ws ++ fixedWords).take (ws.length + 13) = ws ++ fixedWords := List.take_of_length_le (by simp [fixedWords])
      have hi : s.toList.isEmpty = false := by simpa using hne
      simp [mayB, hp, h5, hi, ht, bne]
    · have h4 : 1000 < (s.size : Int) := by assumption
      have h5 : ¬ s.size ≤ 1000 := by omega
      simp [mayB, h5]
  · have he : s.toList = [] := toList_nil.2 hp
    go_wp2
    go_ret
    exact ⟨by simp [mayB, hp], hb1⟩
end Go.Proofs.YtjdgfdpbiidldaaGreatDoor
