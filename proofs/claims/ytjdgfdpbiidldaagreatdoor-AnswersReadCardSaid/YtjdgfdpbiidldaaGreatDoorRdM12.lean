/-
  Layer 7 (elab): Term at true and at false (laid by gen_ele.py). Conditions: the book lies there.
  What is read from an integer's text is the integer: plain facts, no program. No condition.
  Layer 27 (answers): AnswersRead at a Bool. Conditions: none.
  Layer 27 (answers): AnswersRead at an Int. Conditions: the value's numbers; its text's tokens and tree; strconv's error is laid.
  Layer 27 (answers): AnswersRead at whatever value. Conditions: the value's numbers are of 64 bits; strconv's error is laid.
-/
import Derived.Test.YtjdgfdpbiidldaaGreatDoorRdM11
import Derived.Test.YtjdgfdpbiidldaaGreatDoorRdM9
namespace Go.Proofs.YtjdgfdpbiidldaaGreatDoor
open Go.RowKit

theorem termE_true (bk tb sb : Nat) (tp : Int) (ao : Option Addr) (kn kc : Nat) (w : World) (hbk : bk < w.heap.size) (h0 : w.cell? ⟨bk, 0, none⟩ = some (.pointer (some ⟨tb, 0, none⟩))) (h1 : w.cell? ⟨bk, 1, none⟩ = some (.pointer (some ⟨sb, 0, none⟩))) :
    Calls Tryz.prog 27 #[.pointer (some ⟨bk, 0, none⟩), .agg #[.bool false, .int .u8 3, .string ⟨#[116, 114, 117, 101]⟩, .int .i64 tp, .slice ao kn kc]] w fun e w' => ∃ t er, e = .returned (.tuple #[.int .i64 t, .int .i64 er]) ∧ (t = 0 ∧ er = 0 ∧ Below w.heap.size w w') := by
  have hlb := lookWorld_below w bk #[.bool false, .int .u8 3, .string ⟨#[116, 114, 117, 101]⟩, .int .i64 tp, .slice ao kn kc]
  have hrd := lookWorld_reader w bk #[.bool false, .int .u8 3, .string ⟨#[116, 114, 117, 101]⟩, .int .i64 tp, .slice ao kn kc]
  have hsz := lookWorld_size w bk #[.bool false, .int .u8 3, .string ⟨#[116, 114, 117, 101]⟩, .int .i64 tp, .slice ao kn kc]
  refine TermE_of (R := fun t er w' => t = 0 ∧ er = 0 ∧ Below w.heap.size w w') bk tb sb false 3 _ tp ao kn kc w hbk h0 h1 ?_
  have h := look_true (w.heap.size + 1) bk 0 tp ao kn kc ((lookWorld w bk #[.bool false, .int .u8 3, .string ⟨#[116, 114, 117, 101]⟩, .int .i64 tp, .slice ao kn kc]).alloc (.cells #[.bool false, .int .u8 3, .string ⟨#[116, 114, 117, 101]⟩, .int .i64 tp, .slice ao kn kc] 36)) ((Lib.alloc_old _ _ _ (by omega)).trans hrd) ⟨by omega, by omega⟩
  refine (term_bool (w.heap.size + 1) bk 0 false 3 _ tp ao kn kc _ (by omega) h).mono ?_
  rintro e w' ⟨rfl, h3⟩
  exact ⟨_, _, rfl, rfl, rfl, hlb.trans (h3.mono (by omega))⟩

theorem termE_false (bk tb sb : Nat) (tp : Int) (ao : Option Addr) (kn kc : Nat) (w : World) (hbk : bk < w.heap.size) (h0 : w.cell? ⟨bk, 0, none⟩ = some (.pointer (some ⟨tb, 0, none⟩))) (h1 : w.cell? ⟨bk, 1, none⟩ = some (.pointer (some ⟨sb, 0, none⟩))) :
    Calls Tryz.prog 27 #[.pointer (some ⟨bk, 0, none⟩), .agg #[.bool false, .int .u8 3, .string ⟨#[102, 97, 108, 115, 101]⟩, .int .i64 tp, .slice ao kn kc]] w fun e w' => ∃ t er, e = .returned (.tuple #[.int .i64 t, .int .i64 er]) ∧ (t = 1 ∧ er = 0 ∧ Below w.heap.size w w') := by
  have hlb := lookWorld_below w bk #[.bool false, .int .u8 3, .string ⟨#[102, 97, 108, 115, 101]⟩, .int .i64 tp, .slice ao kn kc]
  have hrd := lookWorld_reader w bk #[.bool false, .int .u8 3, .string ⟨#[102, 97, 108, 115, 101]⟩, .int .i64 tp, .slice ao kn kc]
  have hsz := lookWorld_size w bk #[.bool false, .int .u8 3, .string ⟨#[102, 97, 108, 115, 101]⟩, .int .i64 tp, .slice ao kn kc]
  refine TermE_of (R := fun t er w' => t = 1 ∧ er = 0 ∧ Below w.heap.size w w') bk tb sb false 3 _ tp ao kn kc w hbk h0 h1 ?_
  have h := look_false (w.heap.size + 1) bk 0 tp ao kn kc ((lookWorld w bk #[.bool false, .int .u8 3, .string ⟨#[102, 97, 108, 115, 101]⟩, .int .i64 tp, .slice ao kn kc]).alloc (.cells #[.bool false, .int .u8 3, .string ⟨#[102, 97, 108, 115, 101]⟩, .int .i64 tp, .slice ao kn kc] 36)) ((Lib.alloc_old _ _ _ (by omega)).trans hrd) ⟨by omega, by omega⟩
  refine (term_bool (w.heap.size + 1) bk 1 false 3 _ tp ao kn kc _ (by omega) h).mono ?_
  rintro e w' ⟨rfl, h3⟩
  exact ⟨_, _, rfl, rfl, rfl, hlb.trans (h3.mono (by omega))⟩
end Go.Proofs.YtjdgfdpbiidldaaGreatDoor

namespace Go.Proofs.YtjdgfdpbiidldaaGreatDoor
open Go.RowKit

theorem storeNum_node (n : Int) : ∃ t : Nat, (storeNum n).2 = t ∧ (storeNum n).1.nodes[t]? = some ⟨3, 0, n, 1, []⟩ := by
  unfold storeNum
  split
  · rename_i h; subst h; exact ⟨2, rfl, rfl⟩
  · exact ⟨3, rfl, rfl⟩
theorem storeNew_true : storeNew.nodes[0]? = some ⟨1, 0, 0, 0, []⟩ := rfl
theorem storeNew_false : storeNew.nodes[1]? = some ⟨2, 0, 0, 0, []⟩ := rfl
theorem nodeVal_num (n : Int) : nodeVal ⟨3, 0, n, 1, []⟩ = .agg #[.int .i64 1, .bool false, .int .i64 (n / 4611686018427387904), .int .i64 (n % 4611686018427387904), .int .i64 0] := rfl
theorem nodeVal_true : nodeVal ⟨1, 0, 0, 0, []⟩ = .agg #[.int .i64 0, .bool true, .int .i64 0, .int .i64 0, .int .i64 0] := rfl
theorem nodeVal_false : nodeVal ⟨2, 0, 0, 0, []⟩ = .agg #[.int .i64 0, .bool false, .int .i64 0, .int .i64 0, .int .i64 0] := rfl
theorem numV_of (n : Int) : numV (n / 4611686018427387904) (n % 4611686018427387904) = n := by unfold numV; omega

/-- the number that an integer's text names: its own, where it is read at all -/
theorem read_back (N : Int) : (readVal N.natAbs).2 = 0 → (if N < 0 then -(readVal N.natAbs).1 else (readVal N.natAbs).1) = N := by
  intro h
  unfold readVal at h ⊢
  split at h
  · rename_i hle
    simp only [hle, if_true]
    split <;> omega
  · cases h
theorem read_err (n : Nat) : (readVal n).2 = 0 ∨ (readVal n).2 = 6 := by
  unfold readVal
  split
  · exact .inl rfl
  · exact .inr rfl
end Go.Proofs.YtjdgfdpbiidldaaGreatDoor

namespace Go.Proofs.YtjdgfdpbiidldaaGreatDoor
open Go.RowKit

theorem termE_bool (bo : Bool) (S : ByteArray) (hS : S = ⟨(boolText bo).toArray⟩) (bk tb sb : Nat) (tp : Int) (ao : Option Addr) (kn kc : Nat) (w : World) (hbk : bk < w.heap.size) (h0 : w.cell? ⟨bk, 0, none⟩ = some (.pointer (some ⟨tb, 0, none⟩))) (h1 : w.cell? ⟨bk, 1, none⟩ = some (.pointer (some ⟨sb, 0, none⟩))) :
    Calls Tryz.prog 27 #[.pointer (some ⟨bk, 0, none⟩), .agg #[.bool false, .int .u8 3, .string S, .int .i64 tp, .slice ao kn kc]] w fun e w' => e = .returned (.tuple #[.int .i64 ((if bo then 0 else 1 : Nat) : Int), .int .i64 0]) ∧ Below w.heap.size w w' := by
  subst hS
  cases bo with
  | true =>
    refine (termE_true bk tb sb tp ao kn kc w hbk h0 h1).mono ?_
    rintro e w' ⟨t, er, rfl, rfl, rfl, h⟩
    exact ⟨rfl, h⟩
  | false =>
    refine (termE_false bk tb sb tp ao kn kc w hbk h0 h1).mono ?_
    rintro e w' ⟨t, er, rfl, rfl, rfl, h⟩
    exact ⟨rfl, h⟩

set_option maxHeartbeats 4000000 in
set_option maxRecDepth 100000 in
theorem read_bool (bo : Bool) (hi lo E : Int) (w : World) :
    Calls Tryz.prog 6 #[.agg #[.int .i64 0, .bool bo, .int .i64 hi, .int .i64 lo, .int .i64 E]] w fun e w' => e = .returned (.bool true) ∧ Below w.heap.size w w' := by
  obtain ⟨O, hO⟩ : ∃ O : Obj, O = .cells #[.int .i64 0, .bool bo, .int .i64 hi, .int .i64 lo, .int .i64 E] 51 := ⟨_, rfl⟩
  have hb0 : Below w.heap.size w (w.alloc O) := (Below.refl _ w).alloc (Nat.le_refl _) _
  have hnew := new_any (w.alloc O)
  have hst := fun w => storeNew_any w
  have hx : (w.alloc O).heap[w.heap.size]? = some O := heap_alloc_new w O
  obtain ⟨S, hS⟩ : ∃ S : ByteArray, S = ⟨(boolText bo).toArray⟩ := ⟨_, rfl⟩
  have hgone := fun B b w h => value_bool B b tab0 bo hi lo E w h
  rw [← hS] at hgone
  have Hnew := Lib.hid hnew
  have Hst := Lib.hid hst
  have Hx := Lib.hid hx
  have Hb0 := Lib.hid hb0
  have Hgone := Lib.hid hgone
  have HO := Lib.hid hO
  have HS := Lib.hid hS
  clear hnew hst hx hb0 hgone hS
  have hcv := fun w => Lib.run_convert_string_bytes (P := Tryz.prog) w 9 72 5 S Tryz.underlying9 Tryz.underlying72 Tryz.underlying5
  have hrt := fun w => rtokens_of (boolText bo) [boolTok bo] S HS.out w (by cases bo <;> decide) (rt_bool bo)
  have Hrt := Lib.hid hrt
  clear hrt
  go_enter Tryz.func6, Tryz.ntmps6
  go_wp2_with fail
  rw [← HO.out]
  refine Hnew.out.mono ?_
  rintro e w1 ⟨rfl, ht1, hb1, hs1⟩
  have Ht1 := Lib.hid ht1
  have Hb1 := Lib.hid (Hb0.out.trans (hb1.mono Hb0.out.size))
  have Hs1 := Lib.hid hs1
  have hx1 := (hb1.block w.heap.size (by simp)).trans Hx.out
  have Hx1 := Lib.hid hx1
  clear ht1 hb1 hs1 hx1
  go_wp2_with fail
  refine (Hst.out _).mono ?_
  rintro e w2 ⟨rfl, hst2, hb2⟩
  have ht2 : IsTab w2 (w.heap.size + 1) (w.heap.size + 1 + 2) tab0 := by
    have h := Ht1.out
    simp only [World.size_alloc] at h
    exact h.keeps (ts := []) (Below.keeps_all hb2 [] false) (by simp) (by simp) (by simp) (by simp)
  have hx2 := (hb2.block w.heap.size (by have := Hs1.out; simp at this; omega)).trans Hx1.out
  have hB2 := Hb1.out.trans (hb2.mono Hb1.out.size)
  obtain ⟨K, hK⟩ : ∃ K : Obj, K = .cells #[.pointer (some ⟨w.heap.size + 1 + 2, 0, none⟩), .pointer (some ⟨w1.heap.size + 2, 0, none⟩), .map none] 68 := ⟨_, rfl⟩
  have ht3 : IsTab (w2.alloc K).drew (w.heap.size + 1) (w.heap.size + 1 + 2) tab0 := ht2.keeps (ts := []) (Below.keeps_all (show Below w2.heap.size w2 (w2.alloc K).drew from (let h := (Below.refl _ w2).alloc (Nat.le_refl _) K; ⟨h.os, h.tape, h.output, h.size, h.block⟩)) [] false) (by simp) (by simp) (by simp) (by simp)
  have hx3 := (Lib.alloc_old w2 K w.heap.size (Array.getElem?_eq_some_iff.1 hx2).1).trans hx2
  rw [HO.out] at hx3
  obtain ⟨⟨c0, c1, c2, c3, c4⟩, _⟩ := cells5 hx3
  have hg3 := Hgone.out _ _ _ ht3
  rw [hK] at c0 c1 c2 c3 c4 hg3 hx3
  have HKK := Lib.hid hK
  have Hg3 := Lib.hid hg3
  have HB2 := Lib.hid hB2
  have Hx3 := Lib.hid hx3
  have Hst2 := Lib.hid hst2
  have Ht2 := Lib.hid ht2
  clear hst2 hb2 ht2 hx2 hB2 ht3 hx3 hg3 hK
  go_wp2_with fail
  go_region_law (go_simp; go_at_call 18; refine Hg3.out.mono ?_; rintro e w4 ⟨rfl, hb4⟩; have hb5 := below_undrew hb4; have d0 := (hb5.cell (p := ⟨w.heap.size, 0, none⟩) (Array.getElem?_eq_some_iff.1 Hx3.out).1).trans c0; have Hb4 := Lib.hid hb5; clear hb4 hb5)
  all_goals
    go_wp2_with (go_at_call 25; refine (Hrt.out _).mono ?_; rintro e w5 ⟨v, rfl, htk, hb5⟩; have Htk := Lib.hid htk; have Hb5 := Lib.hid hb5; clear htk hb5)
    have htk := Htk.out
    obtain ⟨g', cap', rfl⟩ := ownsRow_pos htk
    have htt : TT [boolTok bo] (.mk false 3 ⟨(boolText bo).toArray⟩ ((0 : Nat) : Int) []) := TT.leaf (boolTok bo) (show (3 : Int) ≠ 1 by decide) (show (3 : Int) ≠ 2 by decide)
    have hnx := rnext_any g' 0 cap' [boolTok bo] [boolTok bo] [] _ w5 rfl htt (by show (0 : Nat) ≤ 200; omega) (ToksAt.of_owns htk) (htk.lt g' rfl).2 (by simp) (by rcases ownsRow_shape htk with ⟨hx, _⟩ | ⟨_, _, _, hx, _, _, hy⟩ <;> cases hx <;> exact hy)
    have Hnx := Lib.hid hnx
    clear htk hnx
    simp only [TreeD.isList, TreeD.kind, TreeD.text, TreeD.pos, TreeD.kids] at Hnx
    rw [← HS.out] at Hnx
    refine Hnx.out.mono ?_
    rintro e w6 ⟨ao6, c6, rfl, -, hb6⟩
    have Hb6 := Lib.hid (Hb4.out.trans ((Hb5.out.mono Hb4.out.size).trans (hb6.mono (Nat.le_trans Hb4.out.size Hb5.out.size))))
    clear hb6
    go_wp2_with fail
    have hK2 := heap_alloc_new w2 K
    rw [HKK.out] at hK2
    have h3 := Hb6.out
    have h7 := h3.alloc h3.size (.cells #[.bool false, .int .u8 3, .string S, .int .i64 0, .slice ao6 0 c6] 36)
    have hK7 := (h7.block w2.heap.size (by simp)).trans hK2
    obtain ⟨⟨k0, k1, _⟩, _⟩ := cells3 hK7
    refine (termE_bool bo S HS.out w2.heap.size _ _ 0 ao6 0 c6 _ (Array.getElem?_eq_some_iff.1 hK7).1 k0 k1).mono ?_
    rintro e w8 ⟨rfl, hb8⟩
    have Hb8 := Lib.hid (h7.trans (hb8.mono h7.size))
    have h8 := Hb8.out
    have hK8 := (h8.block w2.heap.size (by simp)).trans hK2
    obtain ⟨⟨m0, m1, _⟩, _⟩ := cells3 hK8
    have hst8 := Hst2.out.same (((Below.refl _ w2).alloc (Nat.le_refl _) _).trans (h8.mono (by simp)))
    have hx8 := (h8.block w.heap.size (Array.getElem?_eq_some_iff.1 Hx3.out).1).trans Hx3.out
    obtain ⟨⟨x0, x1, x2, x3, x4⟩, _⟩ := cells5 hx8
    obtain ⟨tI, htI⟩ : ∃ tI : Nat, tI = (if bo then 0 else 1) := ⟨_, rfl⟩
    obtain ⟨nd, hnd, hna, hno, hnv⟩ : ∃ nd, storeNew.nodes[tI]? = some nd ∧ nd.args = [] ∧ (nd.op = 1 ∨ nd.op = 2 ∨ nd.op = 3) ∧ nodeVal nd = .agg #[.int .i64 0, .bool bo, .int .i64 0, .int .i64 0, .int .i64 0] := by
      rw [htI]
      cases bo
      · exact ⟨_, rfl, rfl, .inr (.inl rfl), rfl⟩
      · exact ⟨_, rfl, rfl, .inl rfl, rfl⟩
    have hv8 := value28_any _ _ _ tI nd w8 hst8 hnd hna hno
    rw [hnv] at hv8
    rw [← htI]
    have Hv8 := Lib.hid hv8
    have HtI := Lib.hid htI
    have Hx8 := Lib.hid hx8
    have HK8 := Lib.hid hK8
    have hvb := fun B b w h => value_bool B b tab0 bo 0 0 0 w h
    rw [← HS.out] at hvb
    have Hvb := Lib.hid hvb
    clear h3 h7 hK7 k0 k1 hb8 hK2 h8 hK8 hst8 htI hv8 hnv hnd hna hno hx8 hvb
    go_wp2_with (go_at_call 28; refine Hv8.out.mono ?_; rintro e w9 ⟨rfl, hb9⟩; have hx9 := (hb9.block w.heap.size (Array.getElem?_eq_some_iff.1 Hx8.out).1).trans Hx8.out; have hx10 := (Lib.alloc_old w9 (.cells #[.int .i64 0, .bool bo, .int .i64 0, .int .i64 0, .int .i64 0] 51) w.heap.size (Array.getElem?_eq_some_iff.1 hx9).1).trans hx9; obtain ⟨⟨y0, y1, y2, y3, y4⟩, _⟩ := cells5 hx10; have hk9 := (hb9.block w2.heap.size (Array.getElem?_eq_some_iff.1 HK8.out).1).trans HK8.out; obtain ⟨⟨z0, z1, _⟩, _⟩ := cells3 ((Lib.alloc_old w9 (.cells #[.int .i64 0, .bool bo, .int .i64 0, .int .i64 0, .int .i64 0] 51) w2.heap.size (Array.getElem?_eq_some_iff.1 hk9).1).trans hk9); have hB9 := ((Below.refl w2.heap.size w2).alloc (Nat.le_refl _) _).trans (Hb8.out.trans (hb9.mono Hb8.out.size) |>.mono (by simp)); have ht9 := Ht2.out.keeps (ts := []) (Below.keeps_all (show Below w2.heap.size w2 (w9.alloc (.cells #[.int .i64 0, .bool bo, .int .i64 0, .int .i64 0, .int .i64 0] 51)).drew from (let h := hB9.alloc hB9.size (.cells #[.int .i64 0, .bool bo, .int .i64 0, .int .i64 0, .int .i64 0] 51); ⟨h.os, h.tape, h.output, h.size, h.block⟩)) [] false) (by simp) (by simp) (by simp) (by simp); have hv9 := Hvb.out _ _ _ ht9; have Hv9 := Lib.hid hv9; have HB9 := Lib.hid hB9; clear hx10 hk9 hB9 ht9 hv9; have Hx9 := Lib.hid hx9; have Hb9 := Lib.hid hb9; clear hx9 hb9)
    go_region_law (go_simp; go_at_call 18; refine Hv9.out.mono ?_; rintro e wA ⟨rfl, hbA⟩; have HbA := Lib.hid (below_undrew hbA); clear hbA)
    all_goals
      go_wp2_with (go_at_call 13; refine (known_true _).mono ?_; rintro e wB ⟨rfl, hbB⟩)
      go_ret
      have a1 := HB9.out.alloc HB9.out.size (.cells #[.int .i64 0, .bool bo, .int .i64 0, .int .i64 0, .int .i64 0] 51)
      have a2 := a1.trans (HbA.out.mono a1.size)
      have a3 := a2.trans (hbB.mono a2.size)
      exact ⟨rfl, HB2.out.trans (a3.mono HB2.out.size)⟩
end Go.Proofs.YtjdgfdpbiidldaaGreatDoor

namespace Go.Proofs.YtjdgfdpbiidldaaGreatDoor
open Go.RowKit

set_option maxHeartbeats 8000000 in
set_option maxRecDepth 100000 in
theorem read_int (bo : Bool) (hi lo E nv re : Int) (l : List UInt8) (ts : List TokD) (tl : Bool) (tk : Int) (tx : ByteArray) (tp : Int) (ks : List TreeD) (w : World) (h1 : -9223372036854775808 ≤ hi ∧ hi ≤ 9223372036854775807) (h2 : -9223372036854775808 ≤ lo ∧ lo ≤ 9223372036854775807) (hl : intText (numV hi lo) = l) (hlen : l.length ≤ 1048576) (hrt0 : RT l 0 ts) (hne : ts ≠ []) (hlts : ts.length ≤ 1048576) (htt : TT ts (.mk tl tk tx tp ks)) (hdep : depD (.mk tl tk tx tp ks) ≤ 200) (hre : re = 0 ∨ re = 6) (hnv : re = 0 → nv = numV hi lo ∧ -4611686018427387903 ≤ nv ∧ nv ≤ 4611686018427387903) (he : ErrLaid w w.heap.size)
    (hE : ∀ (bk tb sb B : Nat) (ao : Option Addr) (kc : Nat) (W : World), bk < W.heap.size → W.cell? ⟨bk, 0, none⟩ = some (.pointer (some ⟨tb, 0, none⟩)) → W.cell? ⟨bk, 1, none⟩ = some (.pointer (some ⟨sb, 0, none⟩)) → IsStore W B sb storeNew → B ≤ W.heap.size → TreeAt W (· < W.heap.size) (.mk tl tk tx tp ks) [.bool tl, .int .u8 tk, .string tx, .int .i64 tp, .slice ao ks.length kc] → ErrLaid W W.heap.size →
      Calls Tryz.prog 27 #[.pointer (some ⟨bk, 0, none⟩), .agg #[.bool tl, .int .u8 tk, .string tx, .int .i64 tp, .slice ao ks.length kc]] W fun e w' => ∃ t er, e = .returned (.tuple #[.int .i64 t, .int .i64 er]) ∧ (er = re ∧ (re = 0 → t = (storeNum nv).2 ∧ IsStore w' B sb (storeNum nv).1) ∧ Below B W w' ∧ ∃ wm, Below W.heap.size W wm ∧ Keeps [168, 172] true wm w')) :
    Calls Tryz.prog 6 #[.agg #[.int .i64 1, .bool bo, .int .i64 hi, .int .i64 lo, .int .i64 E]] w fun e w' => e = .returned (.bool true) ∧ Below w.heap.size w w' := by
  obtain ⟨O, hO⟩ : ∃ O : Obj, O = .cells #[.int .i64 1, .bool bo, .int .i64 hi, .int .i64 lo, .int .i64 E] 51 := ⟨_, rfl⟩
  have hb0 : Below w.heap.size w (w.alloc O) := (Below.refl _ w).alloc (Nat.le_refl _) _
  have hnew := new_any (w.alloc O)
  have hst := fun w => storeNew_any w
  have hx : (w.alloc O).heap[w.heap.size]? = some O := heap_alloc_new w O
  obtain ⟨S, hS⟩ : ∃ S : ByteArray, S = ⟨l.toArray⟩ := ⟨_, rfl⟩
  have hgone := fun B b w h => value_int B b tab0 bo hi lo E w h h1 h2
  rw [hl, ← hS] at hgone
  have Hnew := Lib.hid hnew
  have Hst := Lib.hid hst
  have Hx := Lib.hid hx
  have Hb0 := Lib.hid hb0
  have Hgone := Lib.hid hgone
  have HO := Lib.hid hO
  have HS := Lib.hid hS
  have HE := Lib.hid hE
  have Htt := Lib.hid htt
  have Hdep := Lib.hid hdep
  have Hre := Lib.hid hre
  have Hnv := Lib.hid hnv
  have He := Lib.hid he
  have Hl := Lib.hid hl
  have Hne := Lib.hid hne
  have H1 := Lib.hid h1
  have H2 := Lib.hid h2
  clear hnew hst hx hb0 hgone hS hE htt hdep hre hnv he hl hne h1 h2
  have hcv := fun w => Lib.run_convert_string_bytes (P := Tryz.prog) w 9 72 5 S Tryz.underlying9 Tryz.underlying72 Tryz.underlying5
  have hrt := fun w => rtokens_of l ts S HS.out w hlen hrt0
  have Hrt := Lib.hid hrt
  clear hrt hrt0 hlen
  have hlt0 : ¬ ((ts.length : Int) < 0) := by omega
  go_enter Tryz.func6, Tryz.ntmps6
  go_wp2_with fail
  rw [← HO.out]
  refine Hnew.out.mono ?_
  rintro e w1 ⟨rfl, ht1, hb1, hs1⟩
  have Ht1 := Lib.hid ht1
  have Hb1 := Lib.hid (Hb0.out.trans (hb1.mono Hb0.out.size))
  have Hs1 := Lib.hid hs1
  have hx1 := (hb1.block w.heap.size (by simp)).trans Hx.out
  have Hx1 := Lib.hid hx1
  clear ht1 hb1 hs1 hx1
  go_wp2_with fail
  refine (Hst.out _).mono ?_
  rintro e w2 ⟨rfl, hst2, hb2⟩
  have ht2 : IsTab w2 (w.heap.size + 1) (w.heap.size + 1 + 2) tab0 := by
    have h := Ht1.out
    simp only [World.size_alloc] at h
    exact h.keeps (ts := []) (Below.keeps_all hb2 [] false) (by simp) (by simp) (by simp) (by simp)
  have hx2 := (hb2.block w.heap.size (by have := Hs1.out; simp at this; omega)).trans Hx1.out
  have hB2 := Hb1.out.trans (hb2.mono Hb1.out.size)
  obtain ⟨K, hK⟩ : ∃ K : Obj, K = .cells #[.pointer (some ⟨w.heap.size + 1 + 2, 0, none⟩), .pointer (some ⟨w1.heap.size + 2, 0, none⟩), .map none] 68 := ⟨_, rfl⟩
  have ht3 : IsTab (w2.alloc K).drew (w.heap.size + 1) (w.heap.size + 1 + 2) tab0 := ht2.keeps (ts := []) (Below.keeps_all (show Below w2.heap.size w2 (w2.alloc K).drew from (let h := (Below.refl _ w2).alloc (Nat.le_refl _) K; ⟨h.os, h.tape, h.output, h.size, h.block⟩)) [] false) (by simp) (by simp) (by simp) (by simp)
  have hx3 := (Lib.alloc_old w2 K w.heap.size (Array.getElem?_eq_some_iff.1 hx2).1).trans hx2
  rw [HO.out] at hx3
  obtain ⟨⟨c0, c1, c2, c3, c4⟩, _⟩ := cells5 hx3
  have hg3 := Hgone.out _ _ _ ht3
  rw [hK] at c0 c1 c2 c3 c4 hg3 hx3
  have HKK := Lib.hid hK
  have Hg3 := Lib.hid hg3
  have HB2 := Lib.hid hB2
  have Hx3 := Lib.hid hx3
  have Hst2 := Lib.hid hst2
  have HB12 := Lib.hid hb2
  have Ht2 := Lib.hid ht2
  clear hst2 hb2 ht2 hx2 hB2 ht3 hx3 hg3 hK
  go_wp2_with fail
  go_region_law (go_simp; go_at_call 18; refine Hg3.out.mono ?_; rintro e w4 ⟨rfl, hb4⟩; have hb5 := below_undrew hb4; have d0 := (hb5.cell (p := ⟨w.heap.size, 0, none⟩) (Array.getElem?_eq_some_iff.1 Hx3.out).1).trans c0; have Hb4 := Lib.hid hb5; clear hb4 hb5)
  all_goals
    go_wp2_with (go_at_call 25; refine (Hrt.out _).mono ?_; rintro e w5 ⟨v, rfl, htk, hb5⟩; have Htk := Lib.hid htk; have Hb5 := Lib.hid hb5; clear htk hb5)
    have htk := Htk.out
    obtain ⟨g', cap', rfl⟩ : ∃ g' cap', v = .slice (some ⟨g', 0, none⟩) ts.length cap' := by
      rcases ownsRow_shape htk with ⟨hx, hy⟩ | ⟨g', cap', _, hx, _⟩
      · exact absurd (List.length_eq_zero_iff.1 (by simpa using hy)) Hne.out
      · exact ⟨g', cap', hx⟩
    have hnx := rnext_any g' 0 cap' ts ts [] (.mk tl tk tx tp ks) w5 (by simp) Htt.out Hdep.out (ToksAt.of_owns htk) (htk.lt g' rfl).2 hlts (by rcases ownsRow_shape htk with ⟨hx, _⟩ | ⟨_, _, _, hx, _, _, hy⟩ <;> cases hx <;> exact hy)
    have Hnx := Lib.hid hnx
    clear htk hnx
    simp only [TreeD.isList, TreeD.kind, TreeD.text, TreeD.pos, TreeD.kids] at Hnx
    refine Hnx.out.mono ?_
    rintro e w6 ⟨ao6, c6, rfl, htr6, hb6⟩
    have Htr6 := Lib.hid htr6
    clear htr6
    have Hb6 := Lib.hid (Hb4.out.trans ((Hb5.out.mono Hb4.out.size).trans (hb6.mono (Nat.le_trans Hb4.out.size Hb5.out.size))))
    clear hb6
    go_wp2_with fail
    have hK2 := heap_alloc_new w2 K
    rw [HKK.out] at hK2
    have h3 := Hb6.out
    have h7 := h3.alloc h3.size (.cells #[.bool tl, .int .u8 tk, .string tx, .int .i64 tp, .slice ao6 ks.length c6] 36)
    have hK7 := (h7.block w2.heap.size (by simp)).trans hK2
    obtain ⟨⟨k0, k1, _⟩, _⟩ := cells3 hK7
    have hw7 : Below w2.heap.size w2 (w6.alloc (.cells #[.bool tl, .int .u8 tk, .string tx, .int .i64 tp, .slice ao6 ks.length c6] 36)) := by
      have h := ((Below.refl _ w2).alloc (Nat.le_refl _) K)
      rw [HKK.out] at h
      exact h.trans (h7.mono (by simp))
    have hst7 := Hst2.out.same hw7
    have htr7 : TreeAt (w6.alloc (.cells #[.bool tl, .int .u8 tk, .string tx, .int .i64 tp, .slice ao6 ks.length c6] 36)) (· < (w6.alloc (.cells #[.bool tl, .int .u8 tk, .string tx, .int .i64 tp, .slice ao6 ks.length c6] 36)).heap.size) (.mk tl tk tx tp ks) [.bool tl, .int .u8 tk, .string tx, .int .i64 tp, .slice ao6 ks.length c6] :=
      TreeAt.keep (fun k hk => by have := hk.2; simp; omega) (fun k hk => Lib.alloc_old w6 _ k hk.2) _ _ Htr6.out
    have hE7 := HE.out w2.heap.size _ _ w1.heap.size ao6 c6 _ (Array.getElem?_eq_some_iff.1 hK7).1 k0 k1 hst7 (by have := hw7.size; have := HB12.out.size; omega) htr7 (errLaid_up He.out (HB2.out.trans (hw7.mono HB2.out.size)) (HB2.out.trans (hw7.mono HB2.out.size)).size)
    refine hE7.mono ?_
    rintro e w8 ⟨tt, er, rfl, rfl, hok8, hb8, wm8, hm8, hk8⟩
    have hw8 : Below w1.heap.size w1 w8 := (HB12.out.trans (hw7.mono HB12.out.size)).trans hb8
    have hz1 : w.heap.size + 1 ≤ w1.heap.size := by have := Hs1.out; simp at this; omega
    have hW8 : Below w.heap.size w w8 := (HB2.out.trans (hw7.mono HB2.out.size)).trans (hb8.mono (by omega))
    have ht8 : IsTab w8 (w.heap.size + 1) (w.heap.size + 1 + 2) tab0 := by
      have h := Ht1.out
      simp only [World.size_alloc] at h
      exact h.keeps (ts := []) (Below.keeps_all hw8 [] false) (by simp) (by simp) (by simp) (by simp)
    have hx8 := (hb8.block w.heap.size (by omega)).trans ((h7.block w.heap.size (Array.getElem?_eq_some_iff.1 Hx3.out).1).trans Hx3.out)
    have hK8 := hk8 _ _ ((hm8.block w2.heap.size (Array.getElem?_eq_some_iff.1 hK7).1).trans hK7) (by simp [Touches])
    obtain ⟨⟨m0, m1, _⟩, _⟩ := cells3 hK8
    obtain ⟨⟨x0, x1, x2, x3, x4⟩, _⟩ := cells5 hx8
    have Ht8 := Lib.hid ht8
    have HW8 := Lib.hid hW8
    have Hx8 := Lib.hid hx8
    have HK8 := Lib.hid hK8
    have Hok8 := Lib.hid hok8
    have hre := Hre.out
    clear h3 h7 hK7 k0 k1 hK2 hw7 hst7 htr7 hE7 hb8 hm8 hk8 hw8 hW8 ht8 hx8 hK8 hok8
    rcases hre with rfl | rfl
    · obtain ⟨rfl, hst8⟩ := Hok8.out rfl
      obtain ⟨hN, hN1, hN2⟩ := Hnv.out rfl
      obtain ⟨tI, htI, hnd⟩ := storeNum_node nv
      have hv8 := value28_any _ _ _ tI _ w8 hst8 hnd rfl (.inr (.inr rfl))
      rw [nodeVal_num] at hv8
      have hvb := fun B b w h => value_int B b tab0 false (nv / 4611686018427387904) (nv % 4611686018427387904) 0 w h (by omega) (by omega)
      rw [numV_of, hN, Hl.out, ← HS.out] at hvb
      rw [← hN] at hvb
      generalize nv / 4611686018427387904 = hi' at hv8 hvb
      generalize nv % 4611686018427387904 = lo' at hv8 hvb
      rw [htI]
      have Hv8 := Lib.hid hv8
      have Hvb := Lib.hid hvb
      clear hN hN1 hN2 htI hnd hv8 hvb hst8
      go_wp2_with (go_at_call 28; refine Hv8.out.mono ?_; rintro e w9 ⟨rfl, hb9⟩; have hx9 := (hb9.block w.heap.size (Array.getElem?_eq_some_iff.1 Hx8.out).1).trans Hx8.out; have hx10 := (Lib.alloc_old w9 (.cells #[.int .i64 1, .bool false, .int .i64 hi', .int .i64 lo', .int .i64 0] 51) w.heap.size (Array.getElem?_eq_some_iff.1 hx9).1).trans hx9; obtain ⟨⟨y0, y1, y2, y3, y4⟩, _⟩ := cells5 hx10; have hk9 := (hb9.block w2.heap.size (Array.getElem?_eq_some_iff.1 HK8.out).1).trans HK8.out; obtain ⟨⟨z0, z1, _⟩, _⟩ := cells3 ((Lib.alloc_old w9 (.cells #[.int .i64 1, .bool false, .int .i64 hi', .int .i64 lo', .int .i64 0] 51) w2.heap.size (Array.getElem?_eq_some_iff.1 hk9).1).trans hk9); have ht9 := Ht8.out.keeps (ts := []) (Below.keeps_all (show Below w8.heap.size w8 (w9.alloc (.cells #[.int .i64 1, .bool false, .int .i64 hi', .int .i64 lo', .int .i64 0] 51)).drew from (let h := hb9.alloc hb9.size (.cells #[.int .i64 1, .bool false, .int .i64 hi', .int .i64 lo', .int .i64 0] 51); ⟨h.os, h.tape, h.output, h.size, h.block⟩)) [] false) (by simp) (by simp) (by simp) (by simp); have hv9 := Hvb.out _ _ _ ht9; have Hv9 := Lib.hid hv9; clear hx10 hk9 ht9 hv9; have Hx9 := Lib.hid hx9; have Hb9 := Lib.hid hb9; clear hx9 hb9)
      go_region_law (go_simp; go_at_call 18; refine Hv9.out.mono ?_; rintro e wA ⟨rfl, hbA⟩; have HbA := Lib.hid (below_undrew hbA); clear hbA)
      all_goals
        go_wp2_with (go_at_call 13; refine (known_true _).mono ?_; rintro e wB ⟨rfl, hbB⟩)
        go_ret
        have a0 := HW8.out.trans (Hb9.out.mono HW8.out.size)
        have a1 := a0.alloc a0.size (.cells #[.int .i64 1, .bool false, .int .i64 hi', .int .i64 lo', .int .i64 0] 51)
        have a2 := a1.trans (HbA.out.mono a1.size)
        exact ⟨rfl, a2.trans (hbB.mono a2.size)⟩
    · go_wp2_with (go_at_call 13; refine (known_true _).mono ?_; rintro e wB ⟨rfl, hbB⟩)
      go_ret
      exact ⟨rfl, HW8.out.trans (hbB.mono HW8.out.size)⟩
end Go.Proofs.YtjdgfdpbiidldaaGreatDoor

namespace Go.Proofs.YtjdgfdpbiidldaaGreatDoor
open Go.RowKit

theorem negTree_kids {W : World} {P : Nat → Prop} {ao : Option Addr} {kc n : Nat} (h : TreeAt W P (negTree n) [.bool true, .int .u8 1, .string ⟨#[40]⟩, .int .i64 ((0 : Nat) : Int), .slice ao 2 kc]) :
    2 ≤ kc ∧ ∃ kb ko a0 c0 a1 c1, ao = some ⟨kb, ko, none⟩ ∧ P kb ∧ KidMinus W kb ko ((1 : Nat) : Int) a0 0 c0 ∧ KidNum W kb (ko + 5) n ((3 : Nat) : Int) a1 0 c1 := by
  unfold negTree TreeAt at h
  obtain ⟨ao', cap, h1, h2, h3⟩ := h
  simp only [List.cons.injEq, Value.slice.injEq, List.length_cons, List.length_nil, and_true, true_and] at h1 h2
  obtain ⟨rfl, -, rfl⟩ := h1
  obtain ⟨b, o, h4, h5, h6⟩ := h3 (by simp)
  unfold KidsAt at h6
  obtain ⟨⟨cs, t1, k1⟩, h7⟩ := h6
  unfold KidsAt at h7
  obtain ⟨⟨cs2, t2, k2⟩, _⟩ := h7
  unfold TreeAt at t1 t2
  obtain ⟨a0, c0, rfl, _⟩ := t1
  obtain ⟨a1, c1, rfl, _⟩ := t2
  exact ⟨by omega, b, o, a0, c0, a1, c1, h4, h5, ⟨k1 0 _ rfl, k1 1 _ rfl, k1 2 _ rfl, k1 3 _ rfl, k1 4 _ rfl⟩, ⟨k2 0 _ rfl, k2 1 _ rfl, k2 2 _ rfl, k2 3 _ rfl, k2 4 _ rfl⟩⟩

theorem negTree_deep (n : Nat) : depD (negTree n) ≤ 200 := by
  unfold negTree
  simp [depD, depsD]

theorem numV_small {hi lo : Int} (h1 : -9223372036854775808 ≤ hi ∧ hi ≤ 9223372036854775807) (h2 : -9223372036854775808 ≤ lo ∧ lo ≤ 9223372036854775807) : (numV hi lo).natAbs < 10 ^ 40 := by
  unfold numV
  have : (10 : Nat) ^ 40 = 10000000000000000000000000000000000000000 := by decide
  rw [this]
  omega

theorem read_pos (bo : Bool) (hi lo E : Int) (w : World) (h1 : -9223372036854775808 ≤ hi ∧ hi ≤ 9223372036854775807) (h2 : -9223372036854775808 ≤ lo ∧ lo ≤ 9223372036854775807) (hN : 0 ≤ numV hi lo) (he : ErrLaid w w.heap.size) :
    Calls Tryz.prog 6 #[.agg #[.int .i64 1, .bool bo, .int .i64 hi, .int .i64 lo, .int .i64 E]] w fun e w' => e = .returned (.bool true) ∧ Below w.heap.size w w' := by
  obtain ⟨n, hn⟩ := Int.eq_ofNat_of_zero_le hN
  have hs := numV_small h1 h2
  rw [hn] at hs
  have hs' : n < 10 ^ 40 := by simpa using hs
  have hl : intText (numV hi lo) = Lib.decDigits n := by rw [hn]; unfold intText; rw [if_neg (by omega)]; rfl
  have hd := dec_len 39 n hs'
  refine read_int bo hi lo E (readVal n).1 (readVal n).2 (Lib.decDigits n) [⟨4, Lib.decDigits n, 0⟩] false 4 ⟨(Lib.decDigits n).toArray⟩ ((0 : Nat) : Int) [] w h1 h2 hl (by omega) (rt_num n) (by simp) (by simp) (TT.leaf ⟨4, Lib.decDigits n, 0⟩ (show (4 : Int) ≠ 1 by decide) (show (4 : Int) ≠ 2 by decide)) (by show (0 : Nat) ≤ 200; omega) (read_err n) ?_ he ?_
  · intro h0
    have h3 := readVal_ok (show readVal n = ((readVal n).1, 0) by rw [← h0])
    have h4 := read_back (numV hi lo) (by rw [hn]; exact h0)
    rw [hn] at h4 ⊢
    rw [if_neg (by omega)] at h4
    exact ⟨h4, by omega, by omega⟩
  · intro bk tb sb B ao kc W g0 g1 g2 g3 g4 g5 g6
    exact termE_num bk tb sb B n _ _ _ ao 0 kc W g0 g1 g2 g3 g4 hs' rfl g6

theorem read_neg (bo : Bool) (hi lo E : Int) (w : World) (h1 : -9223372036854775808 ≤ hi ∧ hi ≤ 9223372036854775807) (h2 : -9223372036854775808 ≤ lo ∧ lo ≤ 9223372036854775807) (hN : numV hi lo < 0) (he : ErrLaid w w.heap.size) :
    Calls Tryz.prog 6 #[.agg #[.int .i64 1, .bool bo, .int .i64 hi, .int .i64 lo, .int .i64 E]] w fun e w' => e = .returned (.bool true) ∧ Below w.heap.size w w' := by
  have hs' := numV_small h1 h2
  obtain ⟨n, hn⟩ : ∃ n, n = (numV hi lo).natAbs := ⟨_, rfl⟩
  rw [← hn] at hs'
  have hl : intText (numV hi lo) = [40, 45, 32] ++ Lib.decDigits n ++ [41] := by unfold intText; rw [if_pos hN, hn]
  have hd := dec_len 39 n hs'
  refine read_int bo hi lo E (if (readVal n).2 = 0 then -(readVal n).1 else 0) (readVal n).2 ([40, 45, 32] ++ Lib.decDigits n ++ [41]) (negToks n) true 1 ⟨#[40]⟩ ((0 : Nat) : Int) [.mk false 3 ⟨#[45]⟩ ((1 : Nat) : Int) [], .mk false 4 ⟨(Lib.decDigits n).toArray⟩ ((3 : Nat) : Int) []] w h1 h2 hl (by simp; omega) (rt_neg n) (by simp [negToks]) (by simp [negToks]) (tt_neg n) (negTree_deep n) (read_err n) ?_ he ?_
  · intro h0
    have h3 := readVal_ok (show readVal n = ((readVal n).1, 0) by rw [← h0])
    have h4 := read_back (numV hi lo) (by rw [← hn]; exact h0)
    rw [← hn, if_pos hN] at h4
    rw [if_pos h0]
    exact ⟨h4, by omega, by omega⟩
  · intro bk tb sb B ao kc W g0 g1 g2 g3 g4 g5 g6
    obtain ⟨hkc, kb, ko, a0, c0, a1, c1, rfl, hP, hk0, hk1⟩ := negTree_kids g5
    exact termE_neg bk tb sb B n kb ko kc _ _ 1 _ _ _ ⟨#[40]⟩ a0 a1 0 c0 0 c1 W g0 g1 g2 g3 g4 hs' rfl g6 hk0 hk1 hP hkc

theorem tab0_name (s : Int) (h0 : s ≠ 0) (h1 : s ≠ 1) : tab0.sortName s = (⟨#[]⟩, 7) := by
  unfold TabD.sortName
  rw [if_neg h0, if_neg h1]
  split
  · rfl
  · have : tab0.sorts.all[(s - 2).toNat]? = none := rfl
    rw [this]

theorem answersRead_any (s : Int) (bo : Bool) (hi lo E : Int) (w : World) (hs : s ≤ 9223372036854775807) (h1 : -9223372036854775808 ≤ hi ∧ hi ≤ 9223372036854775807) (h2 : -9223372036854775808 ≤ lo ∧ lo ≤ 9223372036854775807) (he : ErrLaid w w.heap.size) :
    Calls Tryz.prog 6 #[.agg #[.int .i64 s, .bool bo, .int .i64 hi, .int .i64 lo, .int .i64 E]] w fun e w' => e = .returned (.bool true) ∧ Below w.heap.size w w' := by
  by_cases s0 : s = 0
  · subst s0; exact read_bool bo hi lo E w
  · by_cases s1 : s = 1
    · subst s1
      by_cases hN : 0 ≤ numV hi lo
      · exact read_pos bo hi lo E w h1 h2 hN he
      · exact read_neg bo hi lo E w h1 h2 (by omega) he
    · exact read_gone s bo hi lo E w ⟨s0, s1⟩ hs (tab0_name s s0 s1)
end Go.Proofs.YtjdgfdpbiidldaaGreatDoor
