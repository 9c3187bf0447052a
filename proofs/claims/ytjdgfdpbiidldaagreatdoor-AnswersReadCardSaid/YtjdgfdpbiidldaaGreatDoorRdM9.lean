/-
  Layer 27 (answers): Error(7, 60). No condition.
  Layer 27's statements: known. No condition.
  Layer 27 (answers): AnswersRead at a value of no sort that stands. Conditions: the value's numbers are int64's.
  Layer 27 (answers): the reference's tokens and first tree of a text. Conditions: the text is short and spells tokens.
  The texts of values spell tokens and trees: plain facts, no program. No condition.
  DERIVED: the kit's contracts of strconv.ParseInt(s, 10, 64) at this program (tool output of lay-shelf and lay-plain; other sizes struck).
  Layer 1 (digits): Read of a decimal numeral. Conditions: the numeral is short; strconv's error is laid.
  Layer 6 (terms): there of one term, Node of a term without arguments. Conditions: the term is the store's; the store lies there.
  Layer 6 (terms), 1 (digits), world: Of, whole, see of a term without arguments.
-/
import Derived.Test.YtjdgfdpbiidldaaGreatDoorRdM8
import Derived.Test.YtjdgfdpbiidldaaGreatDoorRdM7
import Derived.Test.YtjdgfdpbiidldaaGreatDoorRdM4
import Derived.Shelf.LaysC
import Derived.Shelf.Strconv.ParseInt10At64
import Derived.Shelf.Strconv.ParseIntPublic10
import Derived.Shelf.Strconv.ErrVarParseInt
import Derived.Test.YtjdgfdpbiidldaaGreatDoorProg
import Derived.Test.YtjdgfdpbiidldaaGreatDoorRdM3
import Derived.Lib.ParseIntBTie
import Derived.Test.YtjdgfdpbiidldaaGreatDoorRdM1
namespace Go.Proofs.YtjdgfdpbiidldaaGreatDoor
open Go.RowKit

def wrongSort : ByteArray := ⟨#[119, 114, 111, 110, 103, 32, 115, 111, 114, 116]⟩
def notNow : ByteArray := ⟨#[110, 111, 116, 32, 110, 111, 119]⟩

theorem err60 : ∀ (i : Nat) (q : ByteArray × List Int), errWords[i]? = some q → (i ≠ 8 → ∀ x ∈ q.2, (x == 60) = false) ∧ (i = 8 → q = (wrongSort, [60])) ∧ q.2.length ≤ 5
  | 0, q, h | 1, q, h | 2, q, h | 3, q, h | 4, q, h | 5, q, h | 6, q, h | 7, q, h | 9, q, h | 10, q, h => by simp [errWords] at h; subst h; simp
  | 8, q, h => by simp [errWords] at h; subst h; simp [wrongSort]
  | n + 11, q, h => by simp [errWords] at h

set_option maxHeartbeats 4000000 in
set_option maxRecDepth 100000 in
theorem error_7_60 (w : World) : Calls Tryz.prog 52 #[.int .i64 7, .int .i64 60] w fun e w' => e = .returned (.string (⟨#[40, 101, 114, 114, 111, 114, 32, 34, 97, 116, 32]⟩ ++ ⟨(Lib.decDigits 7).toArray⟩ ++ ⟨#[58, 32]⟩ ++ wrongSort ++ ⟨#[34, 41]⟩)) ∧ Below w.heap.size w w' := by
  obtain ⟨D, hD⟩ : ∃ D : ByteArray, D = ⟨(Lib.decDigits 7).toArray⟩ := ⟨_, rfl⟩
  have hDs : D.size = 1 := by rw [hD]; decide +kernel
  have hit : ∀ w, Calls Tryz.prog 124 #[.int .i64 7] w fun e w' => e = .returned (.string D) ∧ w' = w := by rw [hD]; exact Tryz.strconv_Itoa_small 7 (by omega)
  rw [← hD]
  clear hD
  go_enter Tryz.func52, Tryz.ntmps52
  go_wp2_with fail
  refine (words_any w).mono ?_
  rintro e w1 ⟨rfl, ⟨l, hM, hlen, _, hall⟩, hb1⟩
  have Hall := Lib.hid hall
  have h11 : l.length = 11 := hlen
  have H11 := Lib.hid h11
  clear hall hlen h11
  go_wp2_with (at_range; refine JM.wpList_range_j w1 rfl (.tmp 10) rfl Tryz.underlying233 rfl hM ?_; intro w2 hrg hg2 hs2)
  go_frame
  have hb2 : Below w.heap.size w w2 := hb1.grown hg2 hb1.size (fun k e => by cases e)
  obtain ⟨R, hRe⟩ : ∃ R, R = w1.heap.size := ⟨_, rfl⟩
  have hBR : w.heap.size ≤ R := by rw [hRe]; exact hb1.size
  rw [← hRe] at hrg ⊢
  have rows2 : ∀ (i : Nat) (p : ByteArray × Value) (q : ByteArray × List Int), l[i]? = some p → errWords[i]? = some q → p.1 = q.1 ∧ ∃ g, g ≠ R ∧ p.2 = .slice (some ⟨g, 0, none⟩) q.2.length q.2.length ∧ w2.heap[g]? = some (.cells (ints q.2) 42 (0, 0)) := by
    intro i p q hp hq
    obtain ⟨h1, g, h2, h3⟩ := Hall.out i p q hp hq
    have hgl := (Array.getElem?_eq_some_iff.1 h3).1
    exact ⟨h1, g, by omega, h2, (hg2.block g hgl (by simp)).trans h3⟩
  have Rows2 := Lib.hid rows2
  clear rows2 Hall hM hb1 hg2 hs2 hRe
  go_loopw [5, 6, 7, 9] (fun said _ _ _ wr => ∃ V cnt, JM.Rng Value.string wr w.heap.size R l V cnt ∧ said = .string (if V 8 then wrongSort else notNow) ∧ Below w.heap.size w wr ∧ (∀ g cs, g ≠ R → w2.heap[g]? = some (.cells cs 42 (0, 0)) → wr.heap[g]? = some (.cells cs 42 (0, 0))))
    (fun _ _ _ _ wr => JM.left wr w.heap.size R)
  case atStart => exact ⟨_, _, hrg, rfl, hb2, fun g cs _ h => h⟩
  case round =>
    obtain ⟨V, cnt, hrg, rfl, hbr, hkeep⟩ := hrel
    have Hkeep := Lib.hid hkeep
    have Hbr := Lib.hid hbr
    obtain ⟨sd, hsd⟩ : ∃ sd, sd = if V 8 then wrongSort else notNow := ⟨_, rfl⟩
    have hleft := hrg.left_eq
    rw [← hsd]
    have Hsd := Lib.hid hsd
    have Hleft := Lib.hid hleft
    clear hkeep hbr hsd hleft
    go_wp2_with (at_next; refine JM.wpList_next_j wr rfl (.tmp 11) rfl rfl hrg ?_ ?_)
    · intro hdone
      have hsd2 : sd = wrongSort := by rw [Hsd.out, hdone 8 (by rw [H11.out]; omega)]; rfl
      clear hdone hrg
      have hsz : sd.size = 10 := by rw [hsd2]; rfl
      subst hsd2
      have hsw : wrongSort.size = 10 := rfl
      go_wp2_with (go_at_call 124; refine (hit _).mono ?_; rintro e w' ⟨rfl, rfl⟩)
      go_ret
      exact ⟨rfl, Hbr.out⟩
    · intro i k v w3 cnt3 hl hVi hrg3 hcnt hg3 hs3 hen
      obtain ⟨q, hq⟩ : ∃ q, errWords[i]? = some q := by
        have h1 := (List.getElem?_eq_some_iff.1 hl).1
        have h2 := H11.out
        exact ⟨_, List.getElem?_eq_getElem (show i < errWords.length by show i < 11; omega)⟩
      obtain ⟨hk, g, hgR, rfl, hgb⟩ := Rows2.out i _ q hl hq
      obtain ⟨e1, e2, e3⟩ := err60 i q hq
      have hb3 : w3.heap[g]? = some (.cells (ints q.2) 42 (0, 0)) := by
        have h := Hkeep.out g _ hgR hgb
        rw [hg3.block g (Array.getElem?_eq_some_iff.1 h).1 (by simpa using hgR)]; exact h
      have hcell : ∀ j x, q.2[j]? = some x → w3.cell? ⟨g, j, none⟩ = some (.int .i64 x) := by
        intro j x hx
        rw [Lib.cell_of_heap hb3]
        simp [ints, hx]
      have Hcell := Lib.hid hcell
      have hfin : ∀ sd' : ByteArray, sd' = (if (V 8 || 8 == i) then wrongSort else notNow) → ∃ V' cnt', JM.Rng Value.string w3 w.heap.size R l V' cnt' ∧ Value.string sd' = .string (if V' 8 then wrongSort else notNow) ∧ Below w.heap.size w w3 ∧ (∀ g cs, g ≠ R → w2.heap[g]? = some (.cells cs 42 (0, 0)) → w3.heap[g]? = some (.cells cs 42 (0, 0))) := by
        intro sd' h
        refine ⟨_, _, hrg3, by rw [h], Hbr.out.grown hg3 Hbr.out.size (fun k e => by cases e; exact hBR), fun g cs hgr hh => ?_⟩
        have h := Hkeep.out g cs hgr hh
        rw [hg3.block g (Array.getElem?_eq_some_iff.1 h).1 (by simpa using hgr)]; exact h
      have hmeas : JM.left w3 w.heap.size R < JM.left wr w.heap.size R := by rw [hrg3.left_eq, Hleft.out]; exact hcnt
      have Hfin := Lib.hid hfin
      have Hmeas := Lib.hid hmeas
      clear hfin hmeas hcell hrg3 hrg hb3 hgb hg3 hs3 hl
      by_cases hi8 : i = 8
      · obtain rfl := e2 hi8
        have c0 := Hcell.out 0 60 rfl
        subst hi8
        clear e1 e2 e3 Hcell
        go_wp2
        go_loopw [5, 9, 19] (fun s _ j wr => wr = w3 ∧ ((j = .int .i64 0 ∧ s = .string sd) ∨ (j = .int .i64 1 ∧ s = .string wrongSort))) (fun _ _ j _ => 1 - (intOf j).toNat)
        case atStart => exact ⟨rfl, .inl ⟨rfl, rfl⟩⟩
        case round =>
          obtain ⟨rfl, h⟩ := hrel
          rcases h with ⟨rfl, rfl⟩ | ⟨rfl, rfl⟩
          · go_wp2
            go_roundw
            case rel => exact ⟨by first | rfl | trivial, .inr ⟨rfl, rfl⟩⟩
            case measure => simp [intOf]
          · go_wp2
            go_roundw
            case rel => exact Hfin.out wrongSort (by simp)
            case measure => exact Hmeas.out
      · have hf := e1 hi8
        have e1' : ∀ (j : Nat) (x : Int), q.2[j]? = some x → (x == 60) = false := fun j x hx => hf x (List.mem_of_getElem? hx)
        have E1 := Lib.hid e1'
        have h8 : (8 == i) = false := by rw [beq_eq_false_iff_ne]; exact fun e => hi8 e.symm
        have H8 := Lib.hid h8
        clear e1 e2 hf e1' h8 hi8
        go_wp2
        go_loopw [5, 9, 19] (fun s _ j wr => wr = w3 ∧ s = .string sd ∧ ∃ k : Nat, j = .int .i64 k ∧ k ≤ q.2.length) (fun _ _ j _ => q.2.length - (intOf j).toNat)
        case atStart => exact ⟨rfl, rfl, 0, rfl, Nat.zero_le _⟩
        case round =>
          obtain ⟨rfl, rfl, kk, rfl, hkk⟩ := hrel
          by_cases hlt : kk < q.2.length
          · obtain ⟨x, hx⟩ : ∃ x, q.2[kk]? = some x := ⟨_, List.getElem?_eq_getElem hlt⟩
            have cx := Hcell.out kk x hx
            have hne := E1.out kk x hx
            clear hx
            go_wp2
            go_roundw
            case rel => exact ⟨by first | rfl | trivial, by first | rfl | trivial, kk + 1, by simp, by omega⟩
            case measure => first | (simp [intOf]; done) | (simp [intOf]; omega)
          · go_wp2
            go_roundw
            case rel => exact Hfin.out sd (by rw [H8.out, Bool.or_false]; exact Hsd.out)
            case measure => exact Hmeas.out
end Go.Proofs.YtjdgfdpbiidldaaGreatDoor

namespace Go.Proofs.YtjdgfdpbiidldaaGreatDoor
open Go.RowKit

theorem elem_text : (⟨#[40, 97, 115, 32, 64]⟩ ++ ⟨(Lib.decDigits 2).toArray⟩ ++ ⟨#[32]⟩ ++ uName ++ ⟨#[41]⟩ : ByteArray) = ⟨#[40, 97, 115, 32, 64, 50, 32, 85, 41]⟩ := by decide +kernel
theorem error_text : (⟨#[40, 101, 114, 114, 111, 114, 32, 34, 97, 116, 32]⟩ ++ ⟨(Lib.decDigits 7).toArray⟩ ++ ⟨#[58, 32]⟩ ++ wrongSort ++ ⟨#[34, 41]⟩ : ByteArray) = ⟨#[40, 101, 114, 114, 111, 114, 32, 34, 97, 116, 32, 55, 58, 32, 119, 114, 111, 110, 103, 32, 115, 111, 114, 116, 34, 41]⟩ := by decide +kernel
theorem tabU_name : tabU.sortName 2 = (uName, 0) := by decide +kernel
theorem uPlain : plainB uName.toList = true := by decide +kernel

set_option maxHeartbeats 1000000 in
set_option maxRecDepth 100000 in
theorem answer_sat (w : World) : Calls Tryz.prog 53 #[.int .u8 1] w fun e w' => e = .returned (.string ⟨#[115, 97, 116]⟩) ∧ w = w' := by
  go_enter Tryz.func53, Tryz.ntmps53
  go_wp2
  go_ret
  exact ⟨rfl, rfl⟩

set_option maxHeartbeats 1000000 in
set_option maxRecDepth 100000 in
theorem known_true (w : World) : Calls Tryz.prog 13 #[] w fun e w' => e = .returned (.bool true) ∧ Below w.heap.size w w' := by
  have hv : ∀ B b w, IsTab w B b tabU → Calls Tryz.prog 18 #[.pointer (some ⟨b, 0, none⟩), .agg #[.int .i64 2, .bool false, .int .i64 0, .int .i64 0, .int .i64 2]] w fun e w' => e = .returned (.tuple #[.string ⟨#[40, 97, 115, 32, 64, 50, 32, 85, 41]⟩, .int .i64 0]) ∧ Below w.heap.size w w' := by
    intro B b w h
    have h1 := value_elem B b tabU 2 uName false 0 0 2 w h (by decide) (by decide) (by decide) tabU_name (by decide) uPlain (by decide)
    rw [elem_text] at h1
    exact h1
  have he := fun w => error_7_60 w
  simp only [error_text] at he
  have Hv := Lib.hid hv
  have He := Lib.hid he
  clear hv he
  go_enter Tryz.func13, Tryz.ntmps13
  go_wp2_with fail
  obtain ⟨W, hW⟩ : ∃ W, W = w.alloc (Obj.cells #[Value.string { data := #[85] }, Value.bool true, Value.string { data := #[] }, Value.slice none 0 0, Value.int IntKind.i64 0, Value.bool false] 123) := ⟨_, rfl⟩
  have hb0 : Below w.heap.size w W := by rw [hW]; exact (Below.refl _ w).alloc (Nat.le_refl _) _
  have hT := tables_U w.heap.size 1 W (by rw [hW]; simp) (by rw [hW, Lib.cell_of_heap (heap_alloc_new w _)]; rfl) (by rw [hW, Lib.cell_of_heap (heap_alloc_new w _)]; rfl)
  rw [← hW]
  clear hW
  refine hT.mono ?_
  rintro e w1 ⟨b, r, rfl, hT1, hb1⟩
  have hb2 := hb0.trans (hb1.mono hb0.size)
  clear hT hb0 hb1
  go_wp2_with fail
  refine (Hv.out _ b w1 hT1).mono ?_
  rintro e w2 ⟨rfl, hb3⟩
  have hb4 := hb2.trans (hb3.mono hb2.size)
  clear hb2 hb3 hT1
  go_wp2_with (first | (go_at_call 52; refine (He.out _).mono ?_; rintro e w3 ⟨rfl, hb5⟩) | (go_at_call 53; refine (answer_sat _).mono ?_; rintro e w' ⟨rfl, rfl⟩))
  go_ret
  exact ⟨rfl, hb4.trans (hb5.mono hb4.size)⟩
end Go.Proofs.YtjdgfdpbiidldaaGreatDoor

namespace Go.Proofs.YtjdgfdpbiidldaaGreatDoor
open Go.RowKit

def tab0 : TabD := ⟨.empty, .empty⟩

set_option maxHeartbeats 4000000 in
set_option maxRecDepth 100000 in
theorem read_gone (s : Int) (bo : Bool) (hi lo E : Int) (w : World) (hs : s ≠ 0 ∧ s ≠ 1) (hs1 : s ≤ 9223372036854775807) (hnm : tab0.sortName s = (⟨#[]⟩, 7)) :
    Calls Tryz.prog 6 #[.agg #[.int .i64 s, .bool bo, .int .i64 hi, .int .i64 lo, .int .i64 E]] w fun e w' => e = .returned (.bool true) ∧ Below w.heap.size w w' := by
  obtain ⟨O, hO⟩ : ∃ O : Obj, O = .cells #[.int .i64 s, .bool bo, .int .i64 hi, .int .i64 lo, .int .i64 E] 51 := ⟨_, rfl⟩
  have hb0 : Below w.heap.size w (w.alloc O) := (Below.refl _ w).alloc (Nat.le_refl _) _
  have hnew := new_any (w.alloc O)
  have hst := fun w => storeNew_any w
  have hx : (w.alloc O).heap[w.heap.size]? = some O := heap_alloc_new w O
  have e0 : (s == 0) = false := by simpa using hs.1
  have e1 : (s == 1) = false := by simpa using hs.2
  have e2 : (s != 0) = true := by simpa using hs.1
  have e3 : (s != 1) = true := by simpa using hs.2
  have hgone := fun B b w h => value_gone B b tab0 s bo hi lo E w h hs1 hnm
  have Hnew := Lib.hid hnew
  have Hst := Lib.hid hst
  have Hx := Lib.hid hx
  have Hb0 := Lib.hid hb0
  have Hgone := Lib.hid hgone
  have HO := Lib.hid hO
  clear hnew hst hx hb0 hgone hs hnm
  go_enter Tryz.func6, Tryz.ntmps6
  go_wp2_with fail
  rw [← HO.out]
  refine Hnew.out.mono ?_
  rintro e w1 ⟨rfl, ht1, hb1, hs1⟩
  have Ht1 := Lib.hid ht1
  have Hb1 := Lib.hid (Hb0.out.trans (hb1.mono Hb0.out.size))
  have Hs1 := Lib.hid hs1
  have hx1 := (hb1.block w.heap.size (by simp)).trans Hx.out
  have Hx1 := Lib.hid hx1
  clear ht1 hb1 hs1 hx1
  go_wp2_with fail
  refine (Hst.out _).mono ?_
  rintro e w2 ⟨rfl, hst2, hb2⟩
  have ht2 : IsTab w2 (w.heap.size + 1) (w.heap.size + 1 + 2) tab0 := by
    have h := Ht1.out
    simp only [World.size_alloc] at h
    exact h.keeps (ts := []) (Below.keeps_all hb2 [] false) (by simp) (by simp) (by simp) (by simp)
  have hx2 := (hb2.block w.heap.size (by have := Hs1.out; simp at this; omega)).trans Hx1.out
  have hB2 := Hb1.out.trans (hb2.mono Hb1.out.size)
  obtain ⟨K, hK⟩ : ∃ K : Obj, K = .cells #[.pointer (some ⟨w.heap.size + 1 + 2, 0, none⟩), .pointer (some ⟨w1.heap.size + 2, 0, none⟩), .map none] 68 := ⟨_, rfl⟩
  have ht3 : IsTab (w2.alloc K).drew (w.heap.size + 1) (w.heap.size + 1 + 2) tab0 := ht2.keeps (ts := []) (Below.keeps_all (show Below w2.heap.size w2 (w2.alloc K).drew from (let h := (Below.refl _ w2).alloc (Nat.le_refl _) K; ⟨h.os, h.tape, h.output, h.size, h.block⟩)) [] false) (by simp) (by simp) (by simp) (by simp)
  have hx3 := (Lib.alloc_old w2 K w.heap.size (Array.getElem?_eq_some_iff.1 hx2).1).trans hx2
  rw [HO.out] at hx3
  obtain ⟨⟨c0, c1, c2, c3, c4⟩, _⟩ := cells5 hx3
  have hg3 := Hgone.out _ _ _ ht3
  rw [hK] at c0 c1 c2 c3 c4 hg3 hx3
  have HKK := Lib.hid hK
  have Hg3 := Lib.hid hg3
  have HB2 := Lib.hid hB2
  have Hx3 := Lib.hid hx3
  clear hst2 hb2 ht2 hx2 hB2 ht3 hx3 hg3 hK
  go_wp2_with fail
  go_region_law (go_simp; go_at_call 18; refine Hg3.out.mono ?_; rintro e w4 ⟨rfl, hb4⟩; have hb5 := below_undrew hb4; have d0 := (hb5.cell (p := ⟨w.heap.size, 0, none⟩) (Array.getElem?_eq_some_iff.1 Hx3.out).1).trans c0; have Hb4 := Lib.hid hb5; clear hb4 hb5)
  all_goals
    go_wp2_with (go_at_call 13; refine (known_true _).mono ?_; rintro e w5 ⟨rfl, hb5⟩)
    go_ret
    refine ⟨rfl, ?_⟩
    have h6 := HB2.out
    have h7 := h6.alloc h6.size K
    rw [HKK.out] at h7
    exact (h7.trans (Hb4.out.mono h7.size)).trans (hb5.mono (h7.trans (Hb4.out.mono h7.size)).size)
end Go.Proofs.YtjdgfdpbiidldaaGreatDoor

namespace Go.Proofs.YtjdgfdpbiidldaaGreatDoor
open Go.RowKit

theorem rtokens_of (l : List UInt8) (ts : List TokD) (S : ByteArray) (hS : S = ⟨l.toArray⟩) (w : World) (hl : l.length ≤ 1048576) (hp : RT l 0 ts) :
    Calls Tryz.prog 25 #[.slice (some ⟨w.heap.size, 0, none⟩) S.size (grownCap w S.size 0 5)] (Lib.bytesWorld w 5 S) fun e w' => ∃ v, e = .returned (.tuple #[v, .int .i64 S.size, .int .i64 0]) ∧ w'.ownsRow (w.heap.size + 1) 34 3 v ts.length (ts.flatMap tokCells) ∧ Below w.heap.size w w' := by
  have hsz : S.size = l.length := by rw [hS]; simp [ByteArray.size]
  have hdl : S.data.toList = l := by rw [hS]
  have h := rtokens_any w.heap.size 0 (grownCap w S.size 0 5) l ts (Lib.bytesWorld w 5 S) ?_ (by rw [Lib.bytesWorld_size]; omega) (by rw [← hsz]; exact grownCap_ge _ _ _ _) hl hp
  · rw [← hsz] at h
    refine h.mono ?_
    rintro e w' ⟨v, rfl, h1, h2⟩
    have hb := bytesWorld_below w 5 S
    rw [Lib.bytesWorld_size] at h1
    exact ⟨v, rfl, h1, hb.trans (h2.mono hb.size)⟩
  · intro j x hx
    have hj : j < S.size := by have := (List.getElem?_eq_some_iff.1 hx).1; omega
    rw [Nat.zero_add, Lib.bytesWorld_cell w 5 S j hj, hdl]
    rw [List.getD_eq_getElem?_getD, hx]; rfl
end Go.Proofs.YtjdgfdpbiidldaaGreatDoor

namespace Go.Proofs.YtjdgfdpbiidldaaGreatDoor
open Go.RowKit

theorem digit_r {c : UInt8} (h : 48 ≤ c.toNat ∧ c.toNat ≤ 57) : rDigit c = true := by unfold rDigit; simp [h.1, h.2]
theorem digit_letter {c : UInt8} (h : 48 ≤ c.toNat ∧ c.toNat ≤ 57) : rLetter c = true := by unfold rLetter; rw [digit_r h]; simp

theorem dec_word (n : Nat) (r : List UInt8) (hr : ∀ c, r.head? = some c → rLetter c = false) : (Lib.decDigits n ++ r).takeWhile rLetter = Lib.decDigits n := by
  have h1 : ∀ c ∈ Lib.decDigits n, rLetter c = true := fun c hc => digit_letter (dec_digit n c hc)
  rw [List.takeWhile_append_of_pos h1]
  cases r with
  | nil => simp
  | cons x r =>
    have := hr x rfl
    simp [this]
theorem dec_numeral (n : Nat) : rNumeral (Lib.decDigits n) = true := by
  unfold rNumeral
  have h1 : (Lib.decDigits n).all rDigit = true := List.all_eq_true.2 (fun c hc => digit_r (dec_digit n c hc))
  rw [h1]
  by_cases h0 : n = 0
  · subst h0; rw [dec_zero]; rfl
  · obtain ⟨c, r, hd, h2, h3⟩ := dec_head n h0
    rw [hd]
    cases r with
    | nil => rfl
    | cons y r =>
      have hc : (c == 48) = false := by rw [beq_eq_false_iff_ne]; rintro rfl; exact absurd h2 (by decide)
      simp [hc]
theorem dec_first (n : Nat) : ∃ c, (Lib.decDigits n)[0]? = some c ∧ rLetter c = true ∧ rDigit c = true := by
  cases h : Lib.decDigits n with
  | nil => exact absurd h (dec_ne n)
  | cons c r =>
    have hc := dec_digit n c (by rw [h]; simp)
    exact ⟨c, rfl, digit_letter hc, digit_r hc⟩

def boolTok (b : Bool) : TokD := ⟨3, boolText b, 0⟩
theorem rt_bool (b : Bool) : RT (boolText b) 0 [boolTok b] := by
  cases b with
  | true =>
    have h : RT (boolText true) 0 (⟨3, rWord (boolText true) 0, 0⟩ :: []) := RT.word (c := 116) rfl (by decide) (by decide) (by
      have e : 0 + (rWord (boolText true) 0).length = (boolText true).length := by decide
      rw [e]; exact RT.nil)
    have e : rWord (boolText true) 0 = boolText true := by decide
    rw [e] at h; exact h
  | false =>
    have h : RT (boolText false) 0 (⟨3, rWord (boolText false) 0, 0⟩ :: []) := RT.word (c := 102) rfl (by decide) (by decide) (by
      have e : 0 + (rWord (boolText false) 0).length = (boolText false).length := by decide
      rw [e]; exact RT.nil)
    have e : rWord (boolText false) 0 = boolText false := by decide
    rw [e] at h; exact h

theorem rt_num (n : Nat) : RT (Lib.decDigits n) 0 [⟨4, Lib.decDigits n, 0⟩] := by
  obtain ⟨c, h0, h1, h2⟩ := dec_first n
  have e : rWord (Lib.decDigits n) 0 = Lib.decDigits n := by
    have := dec_word n [] (by simp)
    simpa [rWord] using this
  have h : RT (Lib.decDigits n) 0 (⟨4, rWord (Lib.decDigits n) 0, 0⟩ :: []) := RT.number h0 h1 h2 (by rw [e]; exact dec_numeral n) (by rw [e, Nat.zero_add]; exact RT.nil)
  rw [e] at h; exact h

def negToks (n : Nat) : List TokD := [⟨1, [40], 0⟩, ⟨3, [45], 1⟩, ⟨4, Lib.decDigits n, 3⟩, ⟨2, [41], 3 + (Lib.decDigits n).length⟩]
theorem rt_neg (n : Nat) : RT ([40, 45, 32] ++ Lib.decDigits n ++ [41]) 0 (negToks n) := by
  obtain ⟨l, hl⟩ : ∃ l, l = [40, 45, 32] ++ Lib.decDigits n ++ [41] := ⟨_, rfl⟩
  have hlen : l.length = 3 + (Lib.decDigits n).length + 1 := by rw [hl]; simp; omega
  have hcons : l = 40 :: 45 :: 32 :: (Lib.decDigits n ++ [41]) := by rw [hl]; simp
  obtain ⟨c, h0, h1, h2⟩ := dec_first n
  have hc : l[3]? = some c := by
    rw [hcons]
    show (Lib.decDigits n ++ [41])[0]? = some c
    rw [List.getElem?_append_left (List.length_pos_iff.2 (dec_ne n))]; exact h0
  have e1 : rWord l 1 = [45] := by
    rw [hcons]; unfold rWord
    show (45 :: 32 :: (Lib.decDigits n ++ [41])).takeWhile rLetter = [45]
    rw [List.takeWhile_cons, show rLetter 45 = true by decide]
    simp only [if_true]
    rw [List.takeWhile_cons, show rLetter 32 = false by decide]; simp
  have e3 : rWord l 3 = Lib.decDigits n := by
    rw [hcons]; unfold rWord
    show (Lib.decDigits n ++ [41]).takeWhile rLetter = _
    exact dec_word n [41] (fun c hc => by simp at hc; subst hc; decide)
  have hlast : l[3 + (Lib.decDigits n).length]? = some 41 := by
    rw [hcons]
    have : 3 + (Lib.decDigits n).length = (Lib.decDigits n).length + 1 + 1 + 1 := by omega
    rw [this]
    show (Lib.decDigits n ++ [41])[(Lib.decDigits n).length]? = some 41
    rw [List.getElem?_append_right (Nat.le_refl _)]; simp
  rw [← hl]
  have hend : RT l (3 + (Lib.decDigits n).length + 1) [] := by rw [← hlen]; exact RT.nil
  have h4 := RT.closes hlast hend
  have h3 : RT l 3 (⟨4, rWord l 3, 3⟩ :: [⟨2, [41], 3 + (Lib.decDigits n).length⟩]) := RT.number hc h1 h2 (by rw [e3]; exact dec_numeral n) (by rw [e3]; exact h4)
  rw [e3] at h3
  have h2' : RT l 2 _ := RT.blank (n := 2) (c := 32) (by rw [hcons]; rfl) (by decide) h3
  have h1' : RT l 1 (⟨3, rWord l 1, 1⟩ :: _) := RT.word (n := 1) (c := 45) (by rw [hcons]; rfl) (by decide) (by decide) (by rw [e1]; exact h2')
  rw [e1] at h1'
  exact RT.opens (n := 0) (by rw [hcons]; rfl) h1'

def negTree (n : Nat) : TreeD := .mk true 1 ⟨#[40]⟩ ((0 : Nat) : Int) [.mk false 3 ⟨#[45]⟩ ((1 : Nat) : Int) [], .mk false 4 ⟨(Lib.decDigits n).toArray⟩ ((3 : Nat) : Int) []]
theorem tt_neg (n : Nat) : TT (negToks n) (negTree n) := by
  have h1 : TT [⟨3, [45], 1⟩] (.mk false 3 ⟨#[45]⟩ ((1 : Nat) : Int) []) := TT.leaf ⟨3, [45], 1⟩ (show (3 : Int) ≠ 1 by decide) (show (3 : Int) ≠ 2 by decide)
  have h2 : TT [⟨4, Lib.decDigits n, 3⟩] (.mk false 4 ⟨(Lib.decDigits n).toArray⟩ ((3 : Nat) : Int) []) := TT.leaf ⟨4, Lib.decDigits n, 3⟩ (show (4 : Int) ≠ 1 by decide) (show (4 : Int) ≠ 2 by decide)
  have h3 := TTs.cons _ _ _ _ h1 (TTs.cons _ _ _ _ h2 TTs.nil)
  exact TT.list ⟨1, [40], 0⟩ ⟨2, [41], 3 + (Lib.decDigits n).length⟩ _ _ rfl rfl h3
end Go.Proofs.YtjdgfdpbiidldaaGreatDoor

namespace Go.Proofs
open Go.Shelf
def Tryz.laysC247_ren : Go.Shelf.Ren := ⟨fun | 247 => 341 | 287 => 383 | 321 => 405 | 322 => 406 | n => n, fun | 9 => 9 | 3 => 3 | 2 => 2 | 75 => 247 | 4 => 4 | 167 => 492 | 5 => 5 | 53 => 254 | 175 => 493 | 46 => 303 | 37 => 72 | 0 => 0 | 21 => 21 | 80 => 252 | n => n, fun | n => n⟩
theorem Tryz.laysC247 : Go.Proofs.LaysC.n247 Tryz.prog Tryz.laysC247_ren := {
  mixed := by kernel_rfl
  f247 := Tryz.func341.trans (congrArg some (by kernel_rfl))
  f287 := Tryz.func383.trans (congrArg some (by kernel_rfl))
  f321 := Tryz.func405.trans (congrArg some (by kernel_rfl))
  f322 := Tryz.func406.trans (congrArg some (by kernel_rfl))
  t0 := Tryz.underlying0
  a0 := Tryz.isAgg0
  z0 := Tryz.sizeOf0
  v0 := Tryz.zeroValue0
  t2 := Tryz.underlying2
  a2 := Tryz.isAgg2
  z2 := Tryz.sizeOf2
  v2 := Tryz.zeroValue2
  t3 := Tryz.underlying3
  a3 := Tryz.isAgg3
  z3 := Tryz.sizeOf3
  v3 := Tryz.zeroValue3
  t4 := Tryz.underlying4
  a4 := Tryz.isAgg4
  z4 := Tryz.sizeOf4
  v4 := Tryz.zeroValue4
  t5 := Tryz.underlying5
  a5 := Tryz.isAgg5
  z5 := Tryz.sizeOf5
  v5 := Tryz.zeroValue5
  t9 := Tryz.underlying9
  a9 := Tryz.isAgg9
  z9 := Tryz.sizeOf9
  v9 := Tryz.zeroValue9
  t21 := Tryz.underlying21
  a21 := Tryz.isAgg21
  z21 := Tryz.sizeOf21
  v21 := Tryz.zeroValue21
  t37 := Tryz.underlying72
  a37 := Tryz.isAgg72
  z37 := Tryz.sizeOf72
  v37 := Tryz.zeroValue72
  t46 := Tryz.underlying303
  a46 := Tryz.isAgg303
  z46 := Tryz.sizeOf303
  v46 := Tryz.zeroValue303
  t53 := Tryz.underlying254
  a53 := Tryz.isAgg254
  z53 := Tryz.sizeOf254
  v53 := Tryz.zeroValue254
  t75 := Tryz.underlying247
  a75 := Tryz.isAgg247
  z75 := Tryz.sizeOf247
  v75 := Tryz.zeroValue247
  t167 := Tryz.underlying492
  a167 := Tryz.isAgg492
  z167 := Tryz.sizeOf492
  v167 := Tryz.zeroValue492
  t175 := Tryz.underlying493
  a175 := Tryz.isAgg493
  z175 := Tryz.sizeOf493
  v175 := Tryz.zeroValue493
  t80 := Tryz.underlying252
  a80 := Tryz.isAgg252
  z80 := Tryz.sizeOf252
  v80 := Tryz.zeroValue252
  i0 := by kernel_rfl
  i2 := by kernel_rfl
  i3 := by kernel_rfl
  i4 := by kernel_rfl
  i5 := by kernel_rfl
  i9 := by kernel_rfl
  i21 := by kernel_rfl
  i37 := by kernel_rfl
  i46 := by kernel_rfl
  i53 := by kernel_rfl
  i75 := by kernel_rfl
  i80 := by kernel_rfl
  i167 := by kernel_rfl
  i175 := by kernel_rfl
  c0 := by kernel_rfl
  c2 := by kernel_rfl
  c3 := by kernel_rfl
  c4 := by kernel_rfl
  c5 := by kernel_rfl
  c9 := by kernel_rfl
  c21 := by kernel_rfl
  c37 := by kernel_rfl
  c46 := by kernel_rfl
  c53 := by kernel_rfl
  c75 := by kernel_rfl
  c80 := by kernel_rfl
  c167 := by kernel_rfl
  c175 := by kernel_rfl }
open Go.RowKit in
theorem Tryz.internal_strconv_ParseInt_10_at64 (s : ByteArray) (hne : s.size ≠ 0) (hmax : s.size ≤ 9223372036854775806) (w : World) :
    Calls Tryz.prog 341 #[.string s, .int .i64 10, .int .i64 64] w fun e w' => e = .returned (Lib.intTuple 492 (Lib.intSat 64 s.data.toList) (Lib.parseIntB 64 s.data.toList)) ∧ (w' = w ∨ ∃ t, w' = Lib.bytesWorld w 5 t) := Any.internal_strconv_ParseInt_10_at64 Tryz.laysC247 s hne hmax w
def Tryz.laysC174_ren : Go.Shelf.Ren := ⟨fun | 174 => 268 | 247 => 341 | 245 => 342 | 287 => 383 | 279 => 384 | 280 => 385 | 281 => 386 | 282 => 387 | 321 => 405 | 322 => 406 | 316 => 407 | 171 => 124 | 205 => 408 | 243 => 184 | 246 => 134 | 283 => 195 | 284 => 196 | 285 => 197 | 286 => 198 | 129 => 243 | 317 => 259 | 318 => 260 | 319 => 261 | 320 => 262 | 337 => 339 | 338 => 340 | n => n, fun | 9 => 9 | 3 => 3 | 2 => 2 | 75 => 247 | 85 => 397 | 4 => 4 | 167 => 492 | 5 => 5 | 53 => 254 | 175 => 493 | 46 => 303 | 168 => 495 | 37 => 72 | 0 => 0 | 210 => 518 | 21 => 21 | 127 => 324 | 145 => 526 | 143 => 524 | 171 => 325 | 173 => 328 | 212 => 390 | 51 => 371 | 20 => 20 | 213 => 391 | 232 => 490 | 233 => 491 | 80 => 252 | n => n, fun | 15 => 8 | 16 => 9 | 17 => 2 | 18 => 4 | 19 => 5 | n => n⟩
theorem Tryz.laysC174 : Go.Proofs.LaysC.n174 Tryz.prog Tryz.laysC174_ren := {
  mixed := by kernel_rfl
  f129 := Tryz.func243.trans (congrArg some (by kernel_rfl))
  f171 := Tryz.func124.trans (congrArg some (by kernel_rfl))
  f174 := Tryz.func268.trans (congrArg some (by kernel_rfl))
  f205 := Tryz.func408.trans (congrArg some (by kernel_rfl))
  f243 := Tryz.func184.trans (congrArg some (by kernel_rfl))
  f245 := Tryz.func342.trans (congrArg some (by kernel_rfl))
  f246 := Tryz.func134.trans (congrArg some (by kernel_rfl))
  f247 := Tryz.func341.trans (congrArg some (by kernel_rfl))
  f279 := Tryz.func384.trans (congrArg some (by kernel_rfl))
  f280 := Tryz.func385.trans (congrArg some (by kernel_rfl))
  f281 := Tryz.func386.trans (congrArg some (by kernel_rfl))
  f282 := Tryz.func387.trans (congrArg some (by kernel_rfl))
  f283 := Tryz.func195.trans (congrArg some (by kernel_rfl))
  f284 := Tryz.func196.trans (congrArg some (by kernel_rfl))
  f285 := Tryz.func197.trans (congrArg some (by kernel_rfl))
  f286 := Tryz.func198.trans (congrArg some (by kernel_rfl))
  f287 := Tryz.func383.trans (congrArg some (by kernel_rfl))
  f316 := Tryz.func407.trans (congrArg some (by kernel_rfl))
  f317 := Tryz.func259.trans (congrArg some (by kernel_rfl))
  f318 := Tryz.func260.trans (congrArg some (by kernel_rfl))
  f319 := Tryz.func261.trans (congrArg some (by kernel_rfl))
  f320 := Tryz.func262.trans (congrArg some (by kernel_rfl))
  f321 := Tryz.func405.trans (congrArg some (by kernel_rfl))
  f322 := Tryz.func406.trans (congrArg some (by kernel_rfl))
  f337 := Tryz.func339.trans (congrArg some (by kernel_rfl))
  f338 := Tryz.func340.trans (congrArg some (by kernel_rfl))
  t0 := Tryz.underlying0
  a0 := Tryz.isAgg0
  z0 := Tryz.sizeOf0
  v0 := Tryz.zeroValue0
  t2 := Tryz.underlying2
  a2 := Tryz.isAgg2
  z2 := Tryz.sizeOf2
  v2 := Tryz.zeroValue2
  t3 := Tryz.underlying3
  a3 := Tryz.isAgg3
  z3 := Tryz.sizeOf3
  v3 := Tryz.zeroValue3
  t4 := Tryz.underlying4
  a4 := Tryz.isAgg4
  z4 := Tryz.sizeOf4
  v4 := Tryz.zeroValue4
  t5 := Tryz.underlying5
  a5 := Tryz.isAgg5
  z5 := Tryz.sizeOf5
  v5 := Tryz.zeroValue5
  t9 := Tryz.underlying9
  a9 := Tryz.isAgg9
  z9 := Tryz.sizeOf9
  v9 := Tryz.zeroValue9
  t20 := Tryz.underlying20
  a20 := Tryz.isAgg20
  z20 := Tryz.sizeOf20
  v20 := Tryz.zeroValue20
  t21 := Tryz.underlying21
  a21 := Tryz.isAgg21
  z21 := Tryz.sizeOf21
  v21 := Tryz.zeroValue21
  t37 := Tryz.underlying72
  a37 := Tryz.isAgg72
  z37 := Tryz.sizeOf72
  v37 := Tryz.zeroValue72
  t46 := Tryz.underlying303
  a46 := Tryz.isAgg303
  z46 := Tryz.sizeOf303
  v46 := Tryz.zeroValue303
  t51 := Tryz.underlying371
  a51 := Tryz.isAgg371
  z51 := Tryz.sizeOf371
  v51 := Tryz.zeroValue371
  t53 := Tryz.underlying254
  a53 := Tryz.isAgg254
  z53 := Tryz.sizeOf254
  v53 := Tryz.zeroValue254
  t75 := Tryz.underlying247
  a75 := Tryz.isAgg247
  z75 := Tryz.sizeOf247
  v75 := Tryz.zeroValue247
  t85 := Tryz.underlying397
  a85 := Tryz.isAgg397
  z85 := Tryz.sizeOf397
  v85 := Tryz.zeroValue397
  t127 := Tryz.underlying324
  a127 := Tryz.isAgg324
  z127 := Tryz.sizeOf324
  v127 := Tryz.zeroValue324
  t143 := Tryz.underlying524
  a143 := Tryz.isAgg524
  z143 := Tryz.sizeOf524
  v143 := Tryz.zeroValue524
  t145 := Tryz.underlying526
  a145 := Tryz.isAgg526
  z145 := Tryz.sizeOf526
  v145 := Tryz.zeroValue526
  t167 := Tryz.underlying492
  a167 := Tryz.isAgg492
  z167 := Tryz.sizeOf492
  v167 := Tryz.zeroValue492
  t168 := Tryz.underlying495
  a168 := Tryz.isAgg495
  z168 := Tryz.sizeOf495
  v168 := Tryz.zeroValue495
  t171 := Tryz.underlying325
  a171 := Tryz.isAgg325
  z171 := Tryz.sizeOf325
  v171 := Tryz.zeroValue325
  t173 := Tryz.underlying328
  a173 := Tryz.isAgg328
  z173 := Tryz.sizeOf328
  v173 := Tryz.zeroValue328
  t175 := Tryz.underlying493
  a175 := Tryz.isAgg493
  z175 := Tryz.sizeOf493
  v175 := Tryz.zeroValue493
  t210 := Tryz.underlying518
  a210 := Tryz.isAgg518
  z210 := Tryz.sizeOf518
  v210 := Tryz.zeroValue518
  t212 := Tryz.underlying390
  a212 := Tryz.isAgg390
  z212 := Tryz.sizeOf390
  v212 := Tryz.zeroValue390
  t213 := Tryz.underlying391
  a213 := Tryz.isAgg391
  z213 := Tryz.sizeOf391
  t232 := Tryz.underlying490
  a232 := Tryz.isAgg490
  z232 := Tryz.sizeOf490
  v232 := Tryz.zeroValue490
  t233 := Tryz.underlying491
  a233 := Tryz.isAgg491
  z233 := Tryz.sizeOf491
  v233 := Tryz.zeroValue491
  g15 := by kernel_rfl
  g16 := by kernel_rfl
  g17 := by kernel_rfl
  g18 := by kernel_rfl
  g19 := by kernel_rfl
  t80 := Tryz.underlying252
  a80 := Tryz.isAgg252
  z80 := Tryz.sizeOf252
  v80 := Tryz.zeroValue252
  i0 := by kernel_rfl
  i2 := by kernel_rfl
  i3 := by kernel_rfl
  i4 := by kernel_rfl
  i5 := by kernel_rfl
  i9 := by kernel_rfl
  i20 := by kernel_rfl
  i21 := by kernel_rfl
  i37 := by kernel_rfl
  i46 := by kernel_rfl
  i51 := by kernel_rfl
  i53 := by kernel_rfl
  i75 := by kernel_rfl
  i80 := by kernel_rfl
  i85 := by kernel_rfl
  i127 := by kernel_rfl
  i143 := by kernel_rfl
  i145 := by kernel_rfl
  i167 := by kernel_rfl
  i168 := by kernel_rfl
  i171 := by kernel_rfl
  i173 := by kernel_rfl
  i175 := by kernel_rfl
  i210 := by kernel_rfl
  i212 := by kernel_rfl
  i232 := by kernel_rfl
  i233 := by kernel_rfl
  m15 := by kernel_rfl
  m16 := by kernel_rfl
  m17 := by kernel_rfl
  m18 := by kernel_rfl
  m19 := by kernel_rfl
  c0 := by kernel_rfl
  c2 := by kernel_rfl
  c3 := by kernel_rfl
  c4 := by kernel_rfl
  c5 := by kernel_rfl
  c9 := by kernel_rfl
  c20 := by kernel_rfl
  c21 := by kernel_rfl
  c37 := by kernel_rfl
  c46 := by kernel_rfl
  c51 := by kernel_rfl
  c53 := by kernel_rfl
  c75 := by kernel_rfl
  c80 := by kernel_rfl
  c85 := by kernel_rfl
  c127 := by kernel_rfl
  c143 := by kernel_rfl
  c145 := by kernel_rfl
  c167 := by kernel_rfl
  c168 := by kernel_rfl
  c171 := by kernel_rfl
  c173 := by kernel_rfl
  c175 := by kernel_rfl
  c210 := by kernel_rfl
  c212 := by kernel_rfl
  c213 := by kernel_rfl
  c232 := by kernel_rfl
  c233 := by kernel_rfl }
open Go.RowKit in
theorem Tryz.strconv_ParseInt_10_at64_ok (s : ByteArray) (hmax : s.size ≤ 9223372036854775806) (v : Int) (h : Lib.parseIntB 64 s.data.toList = .ok v) (w : World) :
    Calls Tryz.prog 268 #[.string s, .int .i64 10, .int .i64 64] w fun e w' => e = .returned (.tuple #[.int .i64 v, .nilIface]) ∧ (w' = w ∨ ∃ t, w' = Lib.bytesWorld w 5 t) := Any.strconv_ParseInt_10_at64_ok Tryz.laysC174 s hmax v h w
open Go.RowKit in
theorem Tryz.strconv_ParseInt_10_at64_range (s : ByteArray) (hlim : s.size ≤ 281474976710656) (h : Lib.parseIntB 64 s.data.toList = .range) (ev : Value) (w : World) (hv : w.cell? ⟨9, 0, none⟩ = some ev) (hev : ev = .nilIface ∨ ∃ te pe, ev = .iface te pe) :
    Calls Tryz.prog 268 #[.string s, .int .i64 10, .int .i64 64] w fun e w' => ∃ N, e = .returned (.tuple #[.int .i64 (Lib.intSat 64 s.data.toList), .iface 495 (.pointer (some ⟨N, 0, none⟩))]) ∧ w.heap.size ≤ N ∧ w'.heap[N]? = some (.cells #[.string ⟨#[80, 97, 114, 115, 101, 73, 110, 116]⟩, .string s, ev] 518 (0, 0)) ∧ Below w.heap.size w w' := Any.strconv_ParseInt_10_at64_range Tryz.laysC174 s hlim h ev w hv hev
open Go.RowKit in
theorem Tryz.strconv_ParseInt_10_at64_range_var (s : ByteArray) (hlim : s.size ≤ 281474976710656) (h : Lib.parseIntB 64 s.data.toList = .range) (tp : TypeId) (p : Value) (w : World) (hvar : w.var? Tryz.prog "strconv.ErrRange" = some #[.iface tp p]) :
    Calls Tryz.prog 268 #[.string s, .int .i64 10, .int .i64 64] w fun e w' => ∃ N, e = .returned (.tuple #[.int .i64 (Lib.intSat 64 s.data.toList), .iface 495 (.pointer (some ⟨N, 0, none⟩))]) ∧ w.heap.size ≤ N ∧ w'.heap[N]? = some (.cells #[.string ⟨#[80, 97, 114, 115, 101, 73, 110, 116]⟩, .string s, .iface tp p] 518 (0, 0)) ∧ Below w.heap.size w w' := Any.strconv_ParseInt_10_at64_range_var Tryz.laysC174 s hlim h tp p w hvar
end Go.Proofs

namespace Go.Proofs.YtjdgfdpbiidldaaGreatDoor
open Go.RowKit

/-- what Read answers at the numeral of n -/
def readVal (n : Nat) : Int × Int := if n ≤ 4611686018427387903 then ((n : Int), 0) else (0, 6)

theorem parse_of (n : Nat) (ev : Value) (w : World) (hn : n < 10 ^ 40) (hv : w.cell? ⟨9, 0, none⟩ = some ev) (hev : ∃ te pe, ev = .iface te pe) :
    Calls Tryz.prog 268 #[.string ⟨(Lib.decDigits n).toArray⟩, .int .i64 10, .int .i64 64] w fun e w' => ∃ v er, e = .returned (.tuple #[.int .i64 v, er]) ∧ ((er = .nilIface ∧ v = n ∧ n < 9223372036854775808) ∨ (∃ N, er = .iface 495 (.pointer (some ⟨N, 0, none⟩)) ∧ ¬ n < 9223372036854775808)) ∧ Below w.heap.size w w' := by
  have hlen := dec_len 39 n hn
  have hsz : (⟨(Lib.decDigits n).toArray⟩ : ByteArray).size ≤ 40 := by simpa [ByteArray.size] using hlen
  have hp := atoi_dec n
  by_cases hb : n < 9223372036854775808
  · rw [if_pos hb] at hp
    refine (Tryz.strconv_ParseInt_10_at64_ok ⟨(Lib.decDigits n).toArray⟩ (by omega) n (by rw [Lib.parseIntB_64]; exact hp) w).mono ?_
    rintro e w' ⟨rfl, h⟩
    refine ⟨_, _, rfl, .inl ⟨rfl, rfl, hb⟩, ?_⟩
    rcases h with rfl | ⟨t, rfl⟩
    · exact Below.refl _ _
    · exact bytesWorld_below _ _ _
  · rw [if_neg hb] at hp
    refine (Tryz.strconv_ParseInt_10_at64_range ⟨(Lib.decDigits n).toArray⟩ (by omega) (by rw [Lib.parseIntB_64]; exact hp) ev w hv (.inr hev)).mono ?_
    rintro e w' ⟨N, rfl, _, _, h⟩
    exact ⟨_, _, rfl, .inr ⟨N, rfl, hb⟩, h⟩

set_option maxHeartbeats 4000000 in
set_option maxRecDepth 100000 in
theorem dread_any (n : Nat) (ev : Value) (w : World) (hn : n < 10 ^ 40) (hv : w.cell? ⟨9, 0, none⟩ = some ev) (h9 : 9 < w.heap.size) (hev : ∃ te pe, ev = .iface te pe) :
    Calls Tryz.prog 212 #[.string ⟨(Lib.decDigits n).toArray⟩] w fun e w' => e = .returned (.tuple #[.int .i64 (readVal n).1, .int .i64 (readVal n).2]) ∧ Below w.heap.size w w' := by
  obtain ⟨S, hS⟩ : ∃ S : ByteArray, S = ⟨(Lib.decDigits n).toArray⟩ := ⟨_, rfl⟩
  have hps := fun w2 (hb : Below w.heap.size w w2) => parse_of n ev w2 hn ((hb.cell (p := ⟨9, 0, none⟩) h9).trans hv) hev
  rw [← hS] at hps ⊢
  have hlen := dec_len 39 n hn
  have hss : S.size = (Lib.decDigits n).length := by rw [hS]; simp [ByteArray.size]
  have hsz : S.size ≤ 40 := by omega
  have hpos : 0 < S.size := by rw [hss]; have := dec_ne n; exact List.length_pos_iff.2 this
  have hne : S.toList.isEmpty = false := by
    rw [ByteArray.toList_eq, hS]
    cases h : Lib.decDigits n with
    | nil => exact absurd h (dec_ne n)
    | cons c r => rfl
  have hdig : ∀ k (h : k < S.size), 48 ≤ (S[k]'h).toNat ∧ (S[k]'h).toNat ≤ 57 := by
    intro k h
    have h2 : S[k]'h ∈ Lib.decDigits n := by
      subst hS
      exact List.getElem_mem (l := Lib.decDigits n) (by rw [← hss]; exact h)
    exact dec_digit n _ h2
  have hhead : 1 < S.size → (S[0]'hpos).toNat ≠ 48 := by
    intro h1
    have hn0 : n ≠ 0 := by
      rintro rfl
      rw [hss, dec_zero] at h1
      simp at h1
    obtain ⟨c, r, hd, h2, h3⟩ := dec_head n hn0
    subst hS
    have : (⟨(Lib.decDigits n).toArray⟩ : ByteArray)[0]'hpos = c := by
      show (Lib.decDigits n).toArray[0]'_ = c
      simp [hd]
    rw [this]; omega
  have hcv := fun w => Lib.run_convert_string_bytes (P := Tryz.prog) w 9 72 5 S Tryz.underlying9 Tryz.underlying72 Tryz.underlying5
  have hcell := fun j (hj : j < S.size) => Lib.bytesWorld_cell w 5 S j hj
  have Hps := Lib.hid hps
  have Hdig := Lib.hid hdig
  have Hcell := Lib.hid hcell
  clear hps hdig hcell hss hlen hS hv h9 hev hn
  by_cases h1 : 1 < S.size
  · have h0 : (((S[0]'hpos).toNat : Int) == 48) = false := by rw [beq_eq_false_iff_ne]; have := hhead h1; omega
    clear hhead
    go_enter Tryz.func212, Tryz.ntmps212
    go_wp2_with fail
    go_loopw [23] (fun i wr => ∃ k : Nat, i = .int .i64 k ∧ k ≤ S.size ∧ wr = Lib.bytesWorld w 5 S) (fun i _ => S.size - (intOf i).toNat)
    case atStart => exact ⟨0, rfl, by omega, by first | rfl | trivial⟩
    case round =>
      obtain ⟨k, rfl, hk, rfl⟩ := hrel
      by_cases hlt : k < S.size
      · have hc := Hcell.out k hlt
        have hgd : S.data.toList.getD k 0 = S[k]'hlt := (Lib.getD_at S k hlt).symm
        rw [hgd] at hc
        obtain ⟨hd1, hd2⟩ := Hdig.out k hlt
        obtain ⟨x, hx⟩ : ∃ x : Nat, x = (S[k]'hlt).toNat := ⟨_, rfl⟩
        rw [← hx] at hc hd1 hd2
        clear hgd hx
        go_wp2_with fail
        go_roundw
        case rel => exact ⟨k + 1, by simp, by omega, by first | rfl | trivial⟩
        case measure => simp [intOf]; omega
      · have hli : ¬ (k : Int) < S.size := by omega
        go_wp2_with fail
        refine (Hps.out _ (bytesWorld_below w 5 S)).mono ?_
        rintro e w3 ⟨v, er, rfl, hcase, hb3⟩
        have Hb3 := Lib.hid ((bytesWorld_below w 5 S).trans (hb3.mono (by rw [Lib.bytesWorld_size]; omega)))
        clear hb3
        rcases hcase with ⟨rfl, rfl, hn2⟩ | ⟨N, rfl, hn2⟩
        · by_cases hn3 : n ≤ 4611686018427387903
          · have hn4 : ¬ (4611686018427387903 : Int) < (n : Int) := by omega
            have hr : readVal n = ((n : Int), 0) := if_pos hn3
            have Hr := Lib.hid hr
            clear hr
            go_wp2_with fail
            go_ret2
            exact ⟨by rw [Hr.out]; rfl, Hb3.out⟩
          · have hn4 : (4611686018427387903 : Int) < (n : Int) := by omega
            have hr : readVal n = (0, 6) := if_neg hn3
            have Hr := Lib.hid hr
            clear hr
            go_wp2_with fail
            go_ret2
            exact ⟨by rw [Hr.out]; rfl, Hb3.out⟩
        · have hr : readVal n = (0, 6) := if_neg (by omega)
          have Hr := Lib.hid hr
          clear hr
          go_wp2_with fail
          go_ret2
          exact ⟨by rw [Hr.out]; rfl, Hb3.out⟩
  · clear hhead
    go_enter Tryz.func212, Tryz.ntmps212
    go_wp2_with fail
    go_loopw [23] (fun i wr => ∃ k : Nat, i = .int .i64 k ∧ k ≤ S.size ∧ wr = Lib.bytesWorld w 5 S) (fun i _ => S.size - (intOf i).toNat)
    case atStart => exact ⟨0, rfl, by omega, by first | rfl | trivial⟩
    case round =>
      obtain ⟨k, rfl, hk, rfl⟩ := hrel
      by_cases hlt : k < S.size
      · have hc := Hcell.out k hlt
        have hgd : S.data.toList.getD k 0 = S[k]'hlt := (Lib.getD_at S k hlt).symm
        rw [hgd] at hc
        obtain ⟨hd1, hd2⟩ := Hdig.out k hlt
        obtain ⟨x, hx⟩ : ∃ x : Nat, x = (S[k]'hlt).toNat := ⟨_, rfl⟩
        rw [← hx] at hc hd1 hd2
        clear hgd hx
        go_wp2_with fail
        go_roundw
        case rel => exact ⟨k + 1, by simp, by omega, by first | rfl | trivial⟩
        case measure => simp [intOf]; omega
      · have hli : ¬ (k : Int) < S.size := by omega
        go_wp2_with fail
        refine (Hps.out _ (bytesWorld_below w 5 S)).mono ?_
        rintro e w3 ⟨v, er, rfl, hcase, hb3⟩
        have Hb3 := Lib.hid ((bytesWorld_below w 5 S).trans (hb3.mono (by rw [Lib.bytesWorld_size]; omega)))
        clear hb3
        rcases hcase with ⟨rfl, rfl, hn2⟩ | ⟨N, rfl, hn2⟩
        · by_cases hn3 : n ≤ 4611686018427387903
          · have hn4 : ¬ (4611686018427387903 : Int) < (n : Int) := by omega
            have hr : readVal n = ((n : Int), 0) := if_pos hn3
            have Hr := Lib.hid hr
            clear hr
            go_wp2_with fail
            go_ret2
            exact ⟨by rw [Hr.out]; rfl, Hb3.out⟩
          · have hn4 : (4611686018427387903 : Int) < (n : Int) := by omega
            have hr : readVal n = (0, 6) := if_neg hn3
            have Hr := Lib.hid hr
            clear hr
            go_wp2_with fail
            go_ret2
            exact ⟨by rw [Hr.out]; rfl, Hb3.out⟩
        · have hr : readVal n = (0, 6) := if_neg (by omega)
          have Hr := Lib.hid hr
          clear hr
          go_wp2_with fail
          go_ret2
          exact ⟨by rw [Hr.out]; rfl, Hb3.out⟩
end Go.Proofs.YtjdgfdpbiidldaaGreatDoor

namespace Go.Proofs.YtjdgfdpbiidldaaGreatDoor
open Go.RowKit

set_option maxHeartbeats 1000000 in
theorem thereC_any (bx b : Nat) (ao : Option Addr) (n cap : Nat) (t : Int) (w : World) (h1 : w.cell? ⟨bx, 0, none⟩ = some (.pointer (some ⟨b, 0, none⟩))) (h2 : w.cell? ⟨b, 0, none⟩ = some (.slice ao n cap)) (h3 : 0 ≤ t) (h4 : t < n) :
    Calls Tryz.prog 162 #[.int .i64 t, .pointer (some ⟨bx, 0, none⟩)] w fun e w' => e = .returned (.bool false) ∧ w = w' := by
  have h5 : ¬ (n : Int) ≤ t := by omega
  go_enter Tryz.func162, Tryz.ntmps162
  go_wp2
  go_ret
  exact ⟨ret_b (by simp; omega), rfl⟩

set_option maxHeartbeats 1000000 in
set_option maxRecDepth 100000 in
theorem index1_any (g bx b c : Nat) (ao : Option Addr) (n cap : Nat) (t : Int) (w : World) (h0 : w.cell? ⟨g, 0, none⟩ = some (.int .i64 t)) (h1 : w.cell? ⟨bx, 0, none⟩ = some (.pointer (some ⟨b, 0, none⟩))) (h2 : w.cell? ⟨b, 0, none⟩ = some (.slice ao n cap)) (h3 : 0 ≤ t) (h4 : t < n) :
    Calls Tryz.prog 230 #[.slice (some ⟨g, 0, none⟩) 1 c, .func (.func 162) #[] #[.pointer (some ⟨bx, 0, none⟩)]] w fun e w' => e = .returned (.int .i64 (-1)) ∧ w = w' := by
  have hc := thereC_any bx b ao n cap t w h1 h2 h3 h4
  have Hc := Lib.hid hc
  clear hc h1 h2 h3 h4
  go_enter Tryz.func230, Tryz.ntmps230
  go_wp2
  go_loopw [5, 8] (fun _ v8 wr => wr = w ∧ (v8 = .int .i64 0 ∨ v8 = .int .i64 1)) (fun _ v8 _ => 1 - (intOf v8).toNat)
  case atStart => exact ⟨by first | rfl | trivial, .inl rfl⟩
  case round =>
    obtain ⟨rfl, rfl | rfl⟩ := hrel
    · go_wp2_with (go_at_call 162; refine Hc.out.mono ?_; rintro e w' ⟨rfl, rfl⟩)
      go_roundw
      case rel => exact ⟨by first | rfl | trivial, .inr (by simp)⟩
      case measure => simp [intOf]
    · go_wp2
      go_ret
      exact ⟨rfl, rfl⟩

set_option maxHeartbeats 1000000 in
theorem contains1_any (g bx b c : Nat) (ao : Option Addr) (n cap : Nat) (t : Int) (w : World) (h0 : w.cell? ⟨g, 0, none⟩ = some (.int .i64 t)) (h1 : w.cell? ⟨bx, 0, none⟩ = some (.pointer (some ⟨b, 0, none⟩))) (h2 : w.cell? ⟨b, 0, none⟩ = some (.slice ao n cap)) (h3 : 0 ≤ t) (h4 : t < n) :
    Calls Tryz.prog 161 #[.slice (some ⟨g, 0, none⟩) 1 c, .func (.func 162) #[] #[.pointer (some ⟨bx, 0, none⟩)]] w fun e w' => e = .returned (.bool false) ∧ w = w' := by
  have hc := index1_any g bx b c ao n cap t w h0 h1 h2 h3 h4
  have Hc := Lib.hid hc
  clear hc h0 h1 h2 h3 h4
  go_enter Tryz.func161, Tryz.ntmps161
  go_wp2_with (go_at_call 230; refine Hc.out.mono ?_; rintro e w' ⟨rfl, rfl⟩)
  go_ret
  exact ⟨rfl, rfl⟩

set_option maxHeartbeats 1000000 in
set_option maxRecDepth 100000 in
theorem there1_any (B b g c : Nat) (S : StoreD) (t : Int) (w : World) (h : IsStore w B b S) (hg : g < w.heap.size) (h0 : w.cell? ⟨g, 0, none⟩ = some (.int .i64 t)) (h3 : 0 ≤ t) (h4 : t < S.nodes.length) :
    Calls Tryz.prog 85 #[.pointer (some ⟨b, 0, none⟩), .slice (some ⟨g, 0, none⟩) 1 c] w fun e w' => e = .returned (.int .i64 0) ∧ Below w.heap.size w w' := by
  have hbel : Below w.heap.size w (w.alloc (.cells #[.pointer (some ⟨b, 0, none⟩)] 64)) := (Below.refl _ w).alloc (Nat.le_refl _) _
  have hs := h.same hbel
  obtain ⟨ao, cap, mt, ml, c0, _⟩ := hs.cells
  have hbx : (w.alloc (.cells #[.pointer (some ⟨b, 0, none⟩)] 64)).cell? ⟨w.heap.size, 0, none⟩ = some (.pointer (some ⟨b, 0, none⟩)) := by rw [Lib.cell_of_heap (heap_alloc_new w _)]; rfl
  have hg2 : (w.alloc (.cells #[.pointer (some ⟨b, 0, none⟩)] 64)).cell? ⟨g, 0, none⟩ = some (.int .i64 t) := (hbel.cell (p := ⟨g, 0, none⟩) hg).trans h0
  have hn := storeNone_any B b S _ hs
  have hc := contains1_any g w.heap.size b c ao S.nodes.length cap t _ hg2 hbx c0 h3 h4
  have Hn := Lib.hid hn
  have Hc := Lib.hid hc
  have Hbel := Lib.hid hbel
  clear h hs c0 hg2 hn hc hbel h3 h4 h0
  go_enter Tryz.func85, Tryz.ntmps85
  go_wp2_with (first | (go_at_call 84; refine Hn.out.mono ?_; rintro e w' ⟨rfl, rfl⟩) | (go_at_call 161; refine Hc.out.mono ?_; rintro e w' ⟨rfl, rfl⟩))
  go_ret
  exact ⟨rfl, Hbel.out⟩

theorem IsStore.node {w : World} {B b : Nat} {S : StoreD} (h : IsStore w B b S) {t : Nat} {n : NodeD} (hn : S.nodes[t]? = some n) (ha : n.args = []) :
    ∃ g cap, w.cell? ⟨b, 0, none⟩ = some (.slice (some ⟨g, 0, none⟩) S.nodes.length cap) ∧ g < w.heap.size ∧ w.cell? ⟨g, t * 5, none⟩ = some (.int .u8 n.op) ∧ w.cell? ⟨g, t * 5 + 1, none⟩ = some (.int .i64 n.fn) ∧ w.cell? ⟨g, t * 5 + 2, none⟩ = some (.int .i64 n.num) ∧ w.cell? ⟨g, t * 5 + 3, none⟩ = some (.int .i64 n.sort) ∧ w.cell? ⟨g, t * 5 + 4, none⟩ = some (.slice none 0 0) := by
  obtain ⟨⟨lv, mt, ml, rows, hb, hall, hrow, hargs, _⟩, _⟩ := h
  have hlen : rows.length = S.nodes.length := by rw [← hall]; simp
  have ht : t < rows.length := by rw [hlen]; exact (List.getElem?_eq_some_iff.1 hn).1
  obtain ⟨p, hp⟩ : ∃ p, rows[t]? = some p := ⟨rows[t], by simp [ht]⟩
  have hpn : p.1 = n := by
    rw [← hall] at hn
    simp [hp] at hn
    exact hn
  have hpv : p.2 = .slice none 0 0 := (hargs p (List.mem_of_getElem? hp)).2 (by rw [hpn]; exact ha)
  rcases ownsRow_shape hrow with ⟨_, h0⟩ | ⟨g, cap, cur, rfl, _, hcur, _⟩
  · omega
  · rw [hlen] at hb hrow
    have hc : ∀ c u, c < 5 → (nodeCells p)[c]? = some u → w.cell? ⟨g, t * 5 + c, none⟩ = some u := by
      intro c u hc hu
      have h4 := flatMap_at nodeCells 5 nodeCells_len rows t c p hp hc
      rw [hrow.cellAt (t * 5 + c) (by rw [← hlen]; omega), h4, hu]
    refine ⟨g, cap, by rw [Lib.cell_of_heap hb]; rfl, (Array.getElem?_eq_some_iff.1 hcur).1, ?_, ?_, ?_, ?_, ?_⟩
    · have := hc 0 _ (by omega) rfl; rw [hpn] at this; exact this
    · have := hc 1 _ (by omega) rfl; rw [hpn] at this; exact this
    · have := hc 2 _ (by omega) rfl; rw [hpn] at this; exact this
    · have := hc 3 _ (by omega) rfl; rw [hpn] at this; exact this
    · have := hc 4 _ (by omega) rfl; rw [hpv] at this; exact this

set_option maxHeartbeats 2000000 in
set_option maxRecDepth 100000 in
theorem node_any (B b : Nat) (S : StoreD) (t : Nat) (n : NodeD) (w : World) (h : IsStore w B b S) (hn : S.nodes[t]? = some n) (ha : n.args = []) :
    Calls Tryz.prog 88 #[.pointer (some ⟨b, 0, none⟩), .int .i64 t] w fun e w' => e = .returned (.tuple #[.agg #[.int .u8 n.op, .int .i64 n.fn, .int .i64 n.num, .int .i64 n.sort, .slice none 0 0], .int .i64 0]) ∧ Below w.heap.size w w' := by
  have ht := (List.getElem?_eq_some_iff.1 hn).1
  have hfew := h.few
  obtain ⟨W, hW⟩ : ∃ W, W = (w.alloc (.cells #[.int .u8 0, .int .i64 0, .int .i64 0, .int .i64 0, .slice none 0 0] 172)).alloc (.cells #[.int .i64 t] 75) := ⟨_, rfl⟩
  have hbel : Below w.heap.size w W := by rw [hW]; exact ((Below.refl _ w).alloc (Nat.le_refl _) _).alloc (by simp) _
  have hsz : W.heap.size = w.heap.size + 2 := by rw [hW]; simp
  have hs := h.same hbel
  have hcg : W.cell? ⟨w.heap.size + 1, 0, none⟩ = some (.int .i64 t) := by
    have h := heap_alloc_new (w.alloc (.cells #[.int .u8 0, .int .i64 0, .int .i64 0, .int .i64 0, .slice none 0 0] 172)) (.cells #[.int .i64 t] 75)
    rw [← hW] at h
    rw [Lib.cell_of_heap (by simpa using h)]; rfl
  have hth := there1_any B b (w.heap.size + 1) 1 S t W hs (by omega) hcg (by omega) (by omega)
  have hT : W.heap[w.heap.size]? = some (.cells #[.int .u8 0, .int .i64 0, .int .i64 0, .int .i64 0, .slice none 0 0] 172 (0, 0)) := by
    rw [hW, Lib.alloc_old _ _ _ (by simp)]; exact heap_alloc_new w _
  have hnode : ∀ w2, Below W.heap.size W w2 → ∃ g cap, w2.cell? ⟨b, 0, none⟩ = some (.slice (some ⟨g, 0, none⟩) S.nodes.length cap) ∧ g < w2.heap.size ∧ w2.cell? ⟨g, t * 5, none⟩ = some (.int .u8 n.op) ∧ w2.cell? ⟨g, t * 5 + 1, none⟩ = some (.int .i64 n.fn) ∧ w2.cell? ⟨g, t * 5 + 2, none⟩ = some (.int .i64 n.num) ∧ w2.cell? ⟨g, t * 5 + 3, none⟩ = some (.int .i64 n.sort) ∧ w2.cell? ⟨g, t * 5 + 4, none⟩ = some (.slice none 0 0) :=
    fun w2 hb => (hs.same hb).node hn ha
  have hti : (t : Int) < S.nodes.length := by omega
  rw [hW] at hth hnode hT
  have Hth := Lib.hid hth
  have Hnode := Lib.hid hnode
  have HT := Lib.hid hT
  have Hbel := Lib.hid hbel
  have HW := Lib.hid hW
  have hti2 : (t : Int) ≤ 20000 := by omega
  clear h hn ha hbel hs hcg hth hT hnode hW hsz ht
  go_enter Tryz.func88, Tryz.ntmps88
  go_wp2_with fail
  refine Hth.out.mono ?_
  rintro e w2 ⟨rfl, hb2⟩
  obtain ⟨g, cap, c0, hg, n0, n1, n2, n3, n4⟩ := Hnode.out w2 hb2
  have z2 := (hb2.block w.heap.size (by simp; omega)).trans HT.out
  obtain ⟨⟨d0, d1, d2, d3, d4⟩, f0, f1, f2, f3, f4⟩ := cells5 z2
  have hb2' : Below w.heap.size w w2 := Hbel.out.trans (by rw [HW.out]; exact hb2.mono (by simp; omega))
  have hlt : w.heap.size < w2.heap.size := by have := hb2.size; simp at this; omega
  have hne : ¬ w.heap.size = w2.heap.size := by omega
  have Hb2' := Lib.hid hb2'
  have Z2 := Lib.hid z2
  clear hb2 z2 hb2'
  go_wp2_with (go_at_call 151; refine (cloneTerms_nil _).mono ?_; rintro e w' ⟨rfl, rfl⟩)
  obtain ⟨W5, hW5, k1, k2, k3, k4⟩ := set5 (.int .u8 n.op) (.int .i64 n.fn) (.int .i64 n.num) (.int .i64 n.sort) (.slice none 0 0) Z2.out
  rw [← hW5]
  have k1' := (Lib.alloc_old W5 (.cells #[.int .u8 n.op, .int .i64 n.fn, .int .i64 n.num, .int .i64 n.sort, .slice none 0 0] 172) w.heap.size (Array.getElem?_eq_some_iff.1 k1).1).trans k1
  obtain ⟨⟨q0, q1, q2, q3, q4⟩, _⟩ := cells5 k1'
  exact bodyPost_ret (v := .tuple #[.agg #[.int .u8 n.op, .int .i64 n.fn, .int .i64 n.num, .int .i64 n.sort, .slice none 0 0], .int .i64 0]) (by simp [results, Tryz.results88, go_sem, q0, q1, q2, q3, q4]) rfl ⟨rfl, (Hb2'.out.trans (k4 _ (Nat.le_refl _))).alloc (by have := k4 _ (Nat.le_refl _); have := this.size; omega) _⟩
end Go.Proofs.YtjdgfdpbiidldaaGreatDoor

namespace Go.Proofs.YtjdgfdpbiidldaaGreatDoor
open Go.RowKit

theorem bits_low (n : Int) : bits .and .i64 n 4611686018427387903 = n % 4611686018427387904 := by
  have h1 : (BitVec.ofInt 64 n).toNat = (n % 18446744073709551616).toNat := by rw [BitVec.toNat_ofInt]; rfl
  have h2 : (BitVec.ofInt 64 4611686018427387903).toNat = 2 ^ 62 - 1 := by decide
  show IntKind.i64.wrap ((BitVec.ofInt 64 n &&& BitVec.ofInt 64 4611686018427387903).toNat : Int) = _
  rw [BitVec.toNat_and, h1, h2, Nat.and_two_pow_sub_one_eq_mod, IntKind.wrap_i64]
  have h3 : (((n % 18446744073709551616).toNat % 2 ^ 62 : Nat) : Int) = n % 4611686018427387904 := by omega
  omega

set_option maxHeartbeats 1000000 in
theorem of_any (n : Int) (w : World) :
    Calls Tryz.prog 221 #[.int .i64 n] w fun e w' => e = .returned (.agg #[.int .i64 (n / 4611686018427387904), .int .i64 (n % 4611686018427387904)]) ∧ Below w.heap.size w w' := by
  have hb := bits_low n
  have Hb := Lib.hid hb
  clear hb
  go_enter Tryz.func221, Tryz.ntmps221
  go_wp2
  rw [Hb.out]
  refine bodyPost_ret (v := .agg #[.int .i64 (n / 4611686018427387904), .int .i64 (n % 4611686018427387904)]) (by simp [results, Tryz.results221, go_sem]) rfl ⟨rfl, ?_⟩
  repeat (first | exact Below.refl _ _ | refine Below.alloc ?_ (by simp) _ | refine Below.setCell ?_ (by simp) _)

set_option maxHeartbeats 1000000 in
theorem whole_any (hi lo : Int) (w : World) :
    Calls Tryz.prog 220 #[.agg #[.int .i64 hi, .int .i64 lo]] w fun e w' => e = .returned (.agg #[.int .i64 1, .bool false, .int .i64 hi, .int .i64 lo, .int .i64 0]) ∧ Below w.heap.size w w' := by
  go_enter Tryz.func220, Tryz.ntmps220
  go_wp2
  refine bodyPost_ret (v := .agg #[.int .i64 1, .bool false, .int .i64 hi, .int .i64 lo, .int .i64 0]) (by simp [results, Tryz.results220, go_sem]) rfl ⟨rfl, ?_⟩
  repeat (first | exact Below.refl _ _ | refine Below.alloc ?_ (by simp) _ | refine Below.setCell ?_ (by simp) _)

/-- what an argless node is worth -/
def nodeVal (n : NodeD) : Value := if n.op = 3 then .agg #[.int .i64 1, .bool false, .int .i64 (n.num / 4611686018427387904), .int .i64 (n.num % 4611686018427387904), .int .i64 0] else .agg #[.int .i64 0, .bool (n.op == 1), .int .i64 0, .int .i64 0, .int .i64 0]

/-- a seer that has seen nothing -/
structure IsSeer (w : World) (B s b : Nat) : Prop where
  ex : ∃ mf mv, w.heap[s]? = some (.cells #[.pointer (some ⟨b, 0, none⟩), .map (some mf), .map (some mv)] 291 (0, 0)) ∧ JM.IsM (Value.int .i64) w mv [] ∧ B ≤ mv

theorem IsSeer.same {w w' : World} {B s b : Nat} (h : IsSeer w B s b) (hs : Below w.heap.size w w') : IsSeer w' B s b := by
  obtain ⟨mf, mv, h1, h2, h3⟩ := h
  exact ⟨mf, mv, (hs.block s (Array.getElem?_eq_some_iff.1 h1).1).trans h1, h2.same (hs.block mv h2.lt), h3⟩

set_option maxHeartbeats 4000000 in
set_option maxRecDepth 100000 in
theorem see_num (B0 B b s : Nat) (S : StoreD) (t : Nat) (num fn so : Int) (w : World) (h : IsStore w B0 b S) (hn : S.nodes[t]? = some ⟨3, fn, num, so, []⟩) (hs : IsSeer w B s b) (hBw : B ≤ w.heap.size) :
    Calls Tryz.prog 160 #[.pointer (some ⟨s, 0, none⟩), .int .i64 t] w fun e w' => e = .returned (.tuple #[nodeVal ⟨3, fn, num, so, []⟩, .int .i64 0]) ∧ Below B w w' := by
  obtain ⟨mf, mv, h1, h2, h3⟩ := hs
  have hlk : (Instr.lookup 289 (.map (some mv)) (.int .i64 t) true).run Tryz.prog (w.alloc (.cells #[.int .i64 0, .bool false, .int .i64 0, .int .i64 0, .int .i64 0] 51)) = .ok (.tuple #[.agg #[.int .i64 0, .bool false, .int .i64 0, .int .i64 0, .int .i64 0], .bool false]) (w.alloc (.cells #[.int .i64 0, .bool false, .int .i64 0, .int .i64 0, .int .i64 0] 51)) := by
    have h4 : JM.IsM (Value.int .i64) (w.alloc (.cells #[.int .i64 0, .bool false, .int .i64 0, .int .i64 0, .int .i64 0] 51)) mv [] := h2.same (Lib.alloc_old _ _ _ h2.lt)
    exact JM.run_lookup (P := Tryz.prog) (JM.int_kind Tryz.underlying75) Tryz.underlying289 h4 (z := .agg #[.int .i64 0, .bool false, .int .i64 0, .int .i64 0, .int .i64 0]) (Tryz.zeroValue51 _) (t : Int) true
  have hslt : s < w.heap.size := (Array.getElem?_eq_some_iff.1 h1).1
  have h1' := (Lib.alloc_old w (.cells #[.int .i64 0, .bool false, .int .i64 0, .int .i64 0, .int .i64 0] 51) s hslt).trans h1
  have c2 : (w.alloc (.cells #[.int .i64 0, .bool false, .int .i64 0, .int .i64 0, .int .i64 0] 51)).cell? ⟨s, 2, none⟩ = some (.map (some mv)) := by rw [Lib.cell_of_heap h1']; rfl
  have hbel : Below w.heap.size w ((w.alloc (.cells #[.int .i64 0, .bool false, .int .i64 0, .int .i64 0, .int .i64 0] 51)).alloc (.cells #[.int .i64 0, .bool false, .int .i64 0, .int .i64 0, .int .i64 0] 51)) := ((Below.refl _ w).alloc (Nat.le_refl _) _).alloc (by simp) _
  have h1'' := (hbel.block s hslt).trans h1
  have c0 : ((w.alloc (.cells #[.int .i64 0, .bool false, .int .i64 0, .int .i64 0, .int .i64 0] 51)).alloc (.cells #[.int .i64 0, .bool false, .int .i64 0, .int .i64 0, .int .i64 0] 51)).cell? ⟨s, 0, none⟩ = some (.pointer (some ⟨b, 0, none⟩)) := by rw [Lib.cell_of_heap h1'']; rfl
  have hnode := node_any B0 b S t ⟨3, fn, num, so, []⟩ _ (h.same hbel) hn rfl
  have hsz : w.heap.size + 2 ≤ ((w.alloc (.cells #[.int .i64 0, .bool false, .int .i64 0, .int .i64 0, .int .i64 0] 51)).alloc (.cells #[.int .i64 0, .bool false, .int .i64 0, .int .i64 0, .int .i64 0] 51)).heap.size := by simp
  have Hnode := Lib.hid hnode
  have hT : ((w.alloc (.cells #[.int .i64 0, .bool false, .int .i64 0, .int .i64 0, .int .i64 0] 51)).alloc (.cells #[.int .i64 0, .bool false, .int .i64 0, .int .i64 0, .int .i64 0] 51)).heap[w.heap.size]? = some (.cells #[.int .i64 0, .bool false, .int .i64 0, .int .i64 0, .int .i64 0] 51 (0, 0)) := by rw [Lib.alloc_old _ _ _ (by simp)]; exact heap_alloc_new w _
  have HT := Lib.hid hT
  have Hsz := Lib.hid hsz
  have H1 := Lib.hid h1
  have H2 := Lib.hid h2
  have Hbel := Lib.hid hbel
  clear hnode h h1 h2 hn h1' h1'' hbel hsz hT
  go_enter Tryz.func160, Tryz.ntmps160
  go_wp2_with fail
  refine Hnode.out.mono ?_
  rintro e w2 ⟨rfl, hb2⟩
  have hb2' := Hbel.out.trans (hb2.mono (by simp; omega))
  have hsz2 : w.heap.size + 2 ≤ w2.heap.size := Nat.le_trans Hsz.out hb2.size
  have hT2 := (hb2.block w.heap.size (by simp; omega)).trans HT.out
  have HT2 := Lib.hid hT2
  have Hb2' := Lib.hid hb2'
  clear hb2 hb2' hT2
  go_wp2_with fail
  refine wp_loop_rounds 1 ?_
  rw [rounds_succ]
  have hbA : Below w.heap.size w ((w2.alloc (.cells #[.int .u8 3, .int .i64 fn, .int .i64 num, .int .i64 so, .slice none 0 0] 172)).alloc (.cells #[.int .i64 0, .bool false, .int .i64 0, .int .i64 0, .int .i64 0] 51)) := (Hb2'.out.alloc (by omega) _).alloc (by simp; omega) _
  have hzA := heap_alloc_new (w2.alloc (.cells #[.int .u8 3, .int .i64 fn, .int .i64 num, .int .i64 so, .slice none 0 0] 172)) (.cells #[.int .i64 0, .bool false, .int .i64 0, .int .i64 0, .int .i64 0] 51)
  rw [World.size_alloc] at hzA
  have HbA := Lib.hid hbA
  have HzA := Lib.hid hzA
  have hss : ¬ s = w2.heap.size + 1 := by omega
  clear hbA hzA
  go_wp2_with (first | (go_at_call 221; refine (of_any num _).mono ?_; rintro e w3 ⟨rfl, hb3⟩; have Hb3 := Lib.hid hb3; clear hb3) | (go_at_call 220; refine (whole_any _ _ _).mono ?_; rintro e w4 ⟨rfl, hb4⟩; have z3 := (Hb3.out.block (w2.heap.size + 1) (by simp)).trans HzA.out; have z4 := (hb4.block (w2.heap.size + 1) (Array.getElem?_eq_some_iff.1 z3).1).trans z3; obtain ⟨⟨d0, d1, d2, d3, d4⟩, f0, f1, f2, f3, f4⟩ := cells5 z4; have hbW := HbA.out.trans ((Hb3.out.mono (by simp; omega)).trans (hb4.mono (by have := Hb3.out.size; simp at this; omega))); have c2' : w4.cell? ⟨s, 2, none⟩ = some (.map (some mv)) := by { rw [Lib.cell_of_heap ((hbW.block s hslt).trans H1.out)]; rfl }; obtain ⟨W5, hW5, k1, k2, k3, k4⟩ := set5 (.int .i64 1) (.bool false) (.int .i64 (num / 4611686018427387904)) (.int .i64 (num % 4611686018427387904)) (.int .i64 0) z4; have hS2 : JM.IsM (Value.int .i64) W5.drew mv [] := H2.out.same (by { have := H2.out.lt; show W5.heap[mv]? = _; rw [k2 mv (by omega), hbW.block mv this] }); obtain ⟨w6, hup, hS3, hg3⟩ := JM.run_update (P := Tryz.prog) (JM.int_kind Tryz.underlying75) Tryz.underlying289 hS2 (t : Int) (.agg #[.int .i64 1, .bool false, .int .i64 (num / 4611686018427387904), .int .i64 (num % 4611686018427387904), .int .i64 0]); have hT4 := (hb4.block w.heap.size (by have := Hb3.out.size; simp at this; omega)).trans ((Hb3.out.block w.heap.size (by simp; omega)).trans ((Lib.alloc_old _ _ _ (by simp; omega)).trans ((Lib.alloc_old _ _ _ (by omega)).trans HT2.out))); have hT6 := (hg3.block w.heap.size (by have := (Array.getElem?_eq_some_iff.1 hT4).1; show _ < W5.heap.size; omega) (by have := H2.out.lt; simpa using (show w.heap.size ≠ mv by omega))).trans ((k2 w.heap.size (by omega)).trans hT4); have hV6 := (hg3.block (w2.heap.size + 1) (Array.getElem?_eq_some_iff.1 k1).1 (by have := H2.out.lt; simpa using (show w2.heap.size + 1 ≠ mv by omega))).trans k1; obtain ⟨⟨a0, a1, a2, a3, a4⟩, b0, b1, b2, b3, b4⟩ := cells5 hT6; obtain ⟨⟨q0, q1, q2, q3, q4⟩, _⟩ := cells5 hV6; have HT6 := Lib.hid hT6; rw [hW5] at hup; have HW5 := Lib.hid hW5; have Hg3 := Lib.hid hg3; have K1 := Lib.hid k1; have K2 := Lib.hid k2; have K4 := Lib.hid k4; have HbW := Lib.hid hbW; clear z3 z4 hbW hW5 k1 k2 k3 k4 hS2 hS3 hg3 hT4 hT6 hV6))
  go_region
  go_wp2_with fail
  obtain ⟨W7, hW7, l1, l2, l3, l4⟩ := set5 (.int .i64 1) (.bool false) (.int .i64 (num / 4611686018427387904)) (.int .i64 (num % 4611686018427387904)) (.int .i64 0) HT6.out
  rw [← hW7]
  obtain ⟨⟨r0, r1, r2, r3, r4⟩, _⟩ := cells5 l1
  have hU : Upd (fun k => k = mv) w w6 := ((Upd.of_all (HbW.out.trans (K4.out _ (by omega))) _).drew).grown Hg3.out (fun k hk _ => (Option.some.inj hk).symm)
  have hB6 : Below B w w6 := hU.below hBw (fun k hk hS => by omega)
  exact bodyPost_ret (v := .tuple #[.agg #[.int .i64 1, .bool false, .int .i64 (num / 4611686018427387904), .int .i64 (num % 4611686018427387904), .int .i64 0], .int .i64 0]) (by simp [results, Tryz.results160, go_sem, r0, r1, r2, r3, r4]) rfl ⟨rfl, hB6.trans (l4 B hBw)⟩
end Go.Proofs.YtjdgfdpbiidldaaGreatDoor
