/-
  Layer 27 (answers): Error(7, 60). No condition.
-/
import Derived.Test.YtjdgfdpbiidldaaGreatDoorEr2
namespace Go.Proofs.YtjdgfdpbiidldaaGreatDoor
open Go.RowKit

def wrongSort : ByteArray := ⟨#[119, 114, 111, 110, 103, 32, 115, 111, 114, 116]⟩
def notNow : ByteArray := ⟨#[110, 111, 116, 32, 110, 111, 119]⟩

theorem err60 : ∀ (i : Nat) (q : ByteArray × List Int), errWords[i]? = some q → (i ≠ 8 → ∀ x ∈ q.2, (x == 60) = false) ∧ (i = 8 → q = (wrongSort, [60])) ∧ q.2.length ≤ 5
  | 0, q, h | 1, q, h | 2, q, h | 3, q, h | 4, q, h | 5, q, h | 6, q, h | 7, q, h | 9, q, h | 10, q, h => by simp [errWords] at h; subst h; simp
  | 8, q, h => by simp [errWords] at h; subst h; simp [wrongSort]
  | n + 11, q, h => by simp [errWords] at h

set_option maxHeartbeats 4000000 in
set_option maxRecDepth 100000 in
theorem error_7_60 (w : World) : Calls Tryz.prog 52 #[.int .i64 7, .int .i64 60] w fun e w' => e = .returned (.string (⟨#[40, 101, 114, 114, 111, 114, 32, 34, 97, 116, 32]⟩ ++ ⟨(Lib.decDigits 7).toArray⟩ ++ ⟨#[58, 32]⟩ ++ wrongSort ++ ⟨#[34, 41]⟩)) ∧ Below w.heap.size w w' := by
  obtain ⟨D, hD⟩ : ∃ D : ByteArray, D = ⟨(Lib.decDigits 7).toArray⟩ := ⟨_, rfl⟩
  have hDs : D.size = 1 := by rw [hD]; decide +kernel
  have hit : ∀ w, Calls Tryz.prog 124 #[.int .i64 7] w fun e w' => e = .returned (.string D) ∧ w' = w := by rw [hD]; exact Tryz.strconv_Itoa_small 7 (by omega)
  rw [← hD]
  clear hD
  go_enter Tryz.func52, Tryz.ntmps52
  go_wp2_with fail
  refine (words_any w).mono ?_
  rintro e w1 ⟨rfl, ⟨l, hM, hlen, _, hall⟩, hb1⟩
  have Hall := Lib.hid hall
  have h11 : l.length = 11 := hlen
  have H11 := Lib.hid h11
  clear hall hlen h11
  go_wp2_with (at_range; refine JM.wpList_range_j w1 rfl (.tmp 10) rfl Tryz.underlying233 rfl hM ?_; intro w2 hrg hg2 hs2)
  go_frame
  have hb2 : Below w.heap.size w w2 := hb1.grown hg2 hb1.size (fun k e => by cases e)
  obtain ⟨R, hRe⟩ : ∃ R, R = w1.heap.size := ⟨_, rfl⟩
  have hBR : w.heap.size ≤ R := by rw [hRe]; exact hb1.size
  rw [← hRe] at hrg ⊢
  have rows2 : ∀ (i : Nat) (p : ByteArray × Value) (q : ByteArray × List Int), l[i]? = some p → errWords[i]? = some q → p.1 = q.1 ∧ ∃ g, g ≠ R ∧ p.2 = .slice (some ⟨g, 0, none⟩) q.2.length q.2.length ∧ w2.heap[g]? = some (.cells (ints q.2) 42 (0, 0)) := by
    intro i p q hp hq
    obtain ⟨h1, g, h2, h3⟩ := Hall.out i p q hp hq
    have hgl := (Array.getElem?_eq_some_iff.1 h3).1
    exact ⟨h1, g, by omega, h2, (hg2.block g hgl (by simp)).trans h3⟩
  have Rows2 := Lib.hid rows2
  clear rows2 Hall hM hb1 hg2 hs2 hRe
  go_loopw [5, 6, 7, 9] (fun said _ _ _ wr => ∃ V cnt, JM.Rng Value.string wr w.heap.size R l V cnt ∧ said = .string (if V 8 then wrongSort else notNow) ∧ Below w.heap.size w wr ∧ (∀ g cs, g ≠ R → w2.heap[g]? = some (.cells cs 42 (0, 0)) → wr.heap[g]? = some (.cells cs 42 (0, 0))))
    (fun _ _ _ _ wr => JM.left wr w.heap.size R)
  case atStart => exact ⟨_, _, hrg, rfl, hb2, fun g cs _ h => h⟩
  case round =>
    obtain ⟨V, cnt, hrg, rfl, hbr, hkeep⟩ := hrel
    have Hkeep := Lib.hid hkeep
    have Hbr := Lib.hid hbr
    obtain ⟨sd, hsd⟩ : ∃ sd, sd = if V 8 then wrongSort else notNow := ⟨_, rfl⟩
    have hleft := hrg.left_eq
    rw [← hsd]
    have Hsd := Lib.hid hsd
    have Hleft := Lib.hid hleft
    clear hkeep hbr hsd hleft
    go_wp2_with (at_next; refine JM.wpList_next_j wr rfl (.tmp 11) rfl rfl hrg ?_ ?_)
    · intro hdone
      have hsd2 : sd = wrongSort := by rw [Hsd.out, hdone 8 (by rw [H11.out]; omega)]; rfl
      clear hdone hrg
      have hsz : sd.size = 10 := by rw [hsd2]; rfl
      subst hsd2
      have hsw : wrongSort.size = 10 := rfl
      go_wp2_with (go_at_call 124; refine (hit _).mono ?_; rintro e w' ⟨rfl, rfl⟩)
      go_ret
      exact ⟨rfl, Hbr.out⟩
    · intro i k v w3 cnt3 hl hVi hrg3 hcnt hg3 hs3 hen
      obtain ⟨q, hq⟩ : ∃ q, errWords[i]? = some q := by
        have h1 := (List.getElem?_eq_some_iff.1 hl).1
        have h2 := H11.out
        exact ⟨_, List.getElem?_eq_getElem (show i < errWords.length by show i < 11; omega)⟩
      obtain ⟨hk, g, hgR, rfl, hgb⟩ := Rows2.out i _ q hl hq
      obtain ⟨e1, e2, e3⟩ := err60 i q hq
      have hb3 : w3.heap[g]? = some (.cells (ints q.2) 42 (0, 0)) := by
        have h := Hkeep.out g _ hgR hgb
        rw [hg3.block g (Array.getElem?_eq_some_iff.1 h).1 (by simpa using hgR)]; exact h
      have hcell : ∀ j x, q.2[j]? = some x → w3.cell? ⟨g, j, none⟩ = some (.int .i64 x) := by
        intro j x hx
        rw [Lib.cell_of_heap hb3]
        simp [ints, hx]
      have Hcell := Lib.hid hcell
      have hfin : ∀ sd' : ByteArray, sd' = (if (V 8 || 8 == i) then wrongSort else notNow) → ∃ V' cnt', JM.Rng Value.string w3 w.heap.size R l V' cnt' ∧ Value.string sd' = .string (if V' 8 then wrongSort else notNow) ∧ Below w.heap.size w w3 ∧ (∀ g cs, g ≠ R → w2.heap[g]? = some (.cells cs 42 (0, 0)) → w3.heap[g]? = some (.cells cs 42 (0, 0))) := by
        intro sd' h
        refine ⟨_, _, hrg3, by rw [h], Hbr.out.grown hg3 Hbr.out.size (fun k e => by cases e; exact hBR), fun g cs hgr hh => ?_⟩
        have h := Hkeep.out g cs hgr hh
        rw [hg3.block g (Array.getElem?_eq_some_iff.1 h).1 (by simpa using hgr)]; exact h
      have hmeas : JM.left w3 w.heap.size R < JM.left wr w.heap.size R := by rw [hrg3.left_eq, Hleft.out]; exact hcnt
      have Hfin := Lib.hid hfin
      have Hmeas := Lib.hid hmeas
      clear hfin hmeas hcell hrg3 hrg hb3 hgb hg3 hs3 hl
      by_cases hi8 : i = 8
      · obtain rfl := e2 hi8
        have c0 := Hcell.out 0 60 rfl
        subst hi8
        clear e1 e2 e3 Hcell
        go_wp2
        go_loopw [5, 9, 19] (fun s _ j wr => wr = w3 ∧ ((j = .int .i64 0 ∧ s = .string sd) ∨ (j = .int .i64 1 ∧ s = .string wrongSort))) (fun _ _ j _ => 1 - (intOf j).toNat)
        case atStart => exact ⟨rfl, .inl ⟨rfl, rfl⟩⟩
        case round =>
          obtain ⟨rfl, h⟩ := hrel
          rcases h with ⟨rfl, rfl⟩ | ⟨rfl, rfl⟩
          · go_wp2
            go_roundw
            case rel => exact ⟨by first | rfl | trivial, .inr ⟨rfl, rfl⟩⟩
            case measure => simp [intOf]
          · go_wp2
            go_roundw
            case rel => exact Hfin.out wrongSort (by simp)
            case measure => exact Hmeas.out
      · have hf := e1 hi8
        have e1' : ∀ (j : Nat) (x : Int), q.2[j]? = some x → (x == 60) = false := fun j x hx => hf x (List.mem_of_getElem? hx)
        have E1 := Lib.hid e1'
        have h8 : (8 == i) = false := by rw [beq_eq_false_iff_ne]; exact fun e => hi8 e.symm
        have H8 := Lib.hid h8
        clear e1 e2 hf e1' h8 hi8
        go_wp2
        go_loopw [5, 9, 19] (fun s _ j wr => wr = w3 ∧ s = .string sd ∧ ∃ k : Nat, j = .int .i64 k ∧ k ≤ q.2.length) (fun _ _ j _ => q.2.length - (intOf j).toNat)
        case atStart => exact ⟨rfl, rfl, 0, rfl, Nat.zero_le _⟩
        case round =>
          obtain ⟨rfl, rfl, kk, rfl, hkk⟩ := hrel
          by_cases hlt : kk < q.2.length
          · obtain ⟨x, hx⟩ : ∃ x, q.2[kk]? = some x := ⟨_, List.getElem?_eq_getElem hlt⟩
            have cx := Hcell.out kk x hx
            have hne := E1.out kk x hx
            clear hx
            go_wp2
            go_roundw
            case rel => exact ⟨by first | rfl | trivial, by first | rfl | trivial, kk + 1, by simp, by omega⟩
            case measure => first | (simp [intOf]; done) | (simp [intOf]; omega)
          · go_wp2
            go_roundw
            case rel => exact Hfin.out sd (by rw [H8.out, Bool.or_false]; exact Hsd.out)
            case measure => exact Hmeas.out
end Go.Proofs.YtjdgfdpbiidldaaGreatDoor
