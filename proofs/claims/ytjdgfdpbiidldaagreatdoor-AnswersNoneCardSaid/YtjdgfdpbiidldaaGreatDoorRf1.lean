/-
  The document's table of names (juristref05): each of its functions answers something, and its table lies on. Only what a caller needs that looks at no answer of it. Conditions: sizes.
-/
import Derived.Test.YtjdgfdpbiidldaaGreatDoorTab3
namespace Go.Proofs.YtjdgfdpbiidldaaGreatDoor
open Go.RowKit

set_option maxHeartbeats 1000000 in
set_option maxRecDepth 100000 in
theorem among_any (s words : ByteArray) (w : World) (hw : words.size ≤ 1000) : Calls Tryz.prog 178 #[.string s, .string words] w fun e w' => (∃ b, e = .returned (.bool b)) ∧ w = w' := by
  go_enter Tryz.func178, Tryz.ntmps178
  go_wp2
  go_loopw [5, 6] (fun fr i wr => ∃ f k : Nat, fr = .int .i64 f ∧ i = .int .i64 k ∧ f ≤ k ∧ k ≤ words.size + 1 ∧ wr = w) (fun _ i _ => words.size + 1 - (intOf i).toNat)
  case atStart => exact ⟨0, 0, rfl, rfl, by omega, by omega, by first | rfl | trivial⟩
  case round =>
    obtain ⟨f, k, rfl, rfl, hfk, hk, rfl⟩ := hrel
    by_cases hlt : k ≤ words.size
    · by_cases he : k = words.size
      · subst he
        go_wp2
        all_goals first
          | (go_ret; exact ⟨⟨_, rfl⟩, rfl⟩)
          | (go_roundw
             case rel => exact ⟨words.size + 1, words.size + 1, by simp, by simp, by omega, by omega, by first | rfl | trivial⟩
             case measure => first | (simp [intOf]; done) | (simp [intOf]; omega))
      · have hlt2 : k < words.size := by omega
        have hkn : ((k : Int) == words.size) = false := by simp; omega
        clear he
        cases h32 : (((words[k].toNat : Nat) : Int) == 32) with
        | true =>
          go_wp2
          all_goals first
            | (go_ret; exact ⟨⟨_, rfl⟩, rfl⟩)
            | (go_roundw
               case rel => exact ⟨k + 1, k + 1, by simp, by simp, by omega, by omega, by first | rfl | trivial⟩
               case measure => first | (simp [intOf]; done) | (simp [intOf]; omega))
        | false =>
          go_wp2
          all_goals first
            | (go_ret; exact ⟨⟨_, rfl⟩, rfl⟩)
            | (go_roundw
               case rel => exact ⟨f, k + 1, rfl, by simp, by omega, by omega, by first | rfl | trivial⟩
               case measure => first | (simp [intOf]; done) | (simp [intOf]; omega))
    · go_wp2
      go_ret
      exact ⟨⟨_, rfl⟩, rfl⟩

set_option maxHeartbeats 1000000 in
set_option maxRecDepth 100000 in
theorem mayRef_any (s : ByteArray) (so : Bool) (w : World) (hs : s.size ≤ 9223372036854775806) : Calls Tryz.prog 109 #[.string s, .bool so] w fun e w' => (∃ b, e = .returned (.bool b)) ∧ w = w' := by
  have Hs := Lib.hid hs
  clear hs
  have ha : ∀ words w, words.size ≤ 1000 → Calls Tryz.prog 178 #[.string s, .string words] w fun e w' => (∃ b, e = .returned (.bool b)) ∧ w = w' := fun words w h => among_any s words w h
  have Ha := Lib.hid ha
  clear ha
  by_cases hp : 0 < s.size
  · have hne : ¬ s.toList = [] := fun e => toList_nil.1 e hp
    have hz : ((s.size : Int) == 0) = false := by rw [beq_eq_false_iff_ne]; omega
    go_enter Tryz.func109, Tryz.ntmps109
    go_wp2_with (go_at_call 178; refine (Ha.out _ _ (by decide)).mono ?_; rintro e w' ⟨⟨b, rfl⟩, rfl⟩)
    all_goals (try (go_ret; first | exact ⟨⟨_, rfl⟩, rfl⟩ | exact ⟨.inl rfl, rfl⟩ | exact ⟨.inr rfl, rfl⟩))
    all_goals
      go_loopw [5] (fun i wr => ∃ k : Nat, i = .int .i64 k ∧ k ≤ s.size ∧ wr = w) (fun i _ => s.size - (intOf i).toNat)
      case atStart => exact ⟨0, rfl, by omega, rfl⟩
      case round =>
        obtain ⟨k, rfl, hk, rfl⟩ := hrel
        have hkk : (k : Int) ≤ 1000 := by omega
        by_cases hlt : k < s.size
        · go_wp2
          all_goals first
            | (go_ret; first | exact ⟨⟨_, rfl⟩, rfl⟩ | exact ⟨.inl rfl, rfl⟩ | exact ⟨.inr rfl, rfl⟩)
            | (go_roundw
               case rel => exact ⟨k + 1, by simp, by omega, by first | rfl | trivial⟩
               case measure => first | (simp [intOf]; done) | (simp [intOf]; omega))
        · go_wp2_with (go_at_call 178; refine (Ha.out _ _ (by decide)).mono ?_; rintro e w' ⟨⟨b, rfl⟩, rfl⟩)
          all_goals (go_ret; first | exact ⟨⟨_, rfl⟩, rfl⟩ | exact ⟨.inl rfl, rfl⟩ | exact ⟨.inr rfl, rfl⟩)
  · have he : s.toList = [] := toList_nil.2 hp
    have hz : ((s.size : Int) == 0) = true := by rw [beq_iff_eq]; omega
    go_enter Tryz.func109, Tryz.ntmps109
    go_wp2
    go_ret
    first | exact ⟨⟨_, rfl⟩, rfl⟩ | exact ⟨.inl rfl, rfl⟩ | exact ⟨.inr rfl, rfl⟩

/-- an entry of the document's table: six cells -/
structure EntD where
  name : ByteArray
  args : Value
  res : Int
  defd : Bool
  level : Int
  stands : Bool
def entCells (e : EntD) : List Value := [.string e.name, e.args, .int .i64 e.res, .bool e.defd, .int .i64 e.level, .bool e.stands]
theorem entCells_len (e : EntD) : (entCells e).length = 6 := rfl

set_option maxHeartbeats 1000000 in
set_option maxRecDepth 100000 in
theorem findRef_any (B : Nat) (v : Value) (rows : List EntD) (s : ByteArray) (w : World) (h : w.ownsRow B 219 6 v rows.length (rows.flatMap entCells)) (hn : rows.length ≤ 2000) :
    Calls Tryz.prog 111 #[v, .string s] w fun e w' => (∃ n, e = .returned (.int .i64 n)) ∧ w = w' := by
  rcases ownsRow_shape h with ⟨rfl, h0⟩ | ⟨g, cap, cur, rfl, _⟩
  · have hr : rows = [] := List.eq_nil_of_length_eq_zero h0
    subst hr
    clear h
    go_enter Tryz.func111, Tryz.ntmps111
    go_wp2
    go_loopw [5] (fun i wr => i = .int .i64 0 ∧ wr = w) (fun _ _ => 0)
    case atStart => exact ⟨rfl, rfl⟩
    case round =>
      obtain ⟨rfl, rfl⟩ := hrel
      go_wp2
      go_ret
      exact ⟨⟨_, rfl⟩, rfl⟩
  · have hcell : ∀ k, k < rows.length → ∃ e : EntD, w.cell? ⟨g, k * 6, none⟩ = some (.string e.name) ∧ w.cell? ⟨g, k * 6 + 5, none⟩ = some (.bool e.stands) := by
      intro k hk
      refine ⟨rows[k], ?_, ?_⟩
      · have h1 := h.cellAt (k * 6) (by omega)
        rw [h1]
        exact flatMap_at entCells 6 entCells_len rows k 0 rows[k] (List.getElem?_eq_getElem hk) (by omega)
      · have h1 := h.cellAt (k * 6 + 5) (by omega)
        rw [h1]
        exact flatMap_at entCells 6 entCells_len rows k 5 rows[k] (List.getElem?_eq_getElem hk) (by omega)
    have Hcell := Lib.hid hcell
    clear hcell h
    go_enter Tryz.func111, Tryz.ntmps111
    go_wp2
    go_loopw [5] (fun i wr => ∃ k : Nat, i = .int .i64 k ∧ k ≤ rows.length ∧ wr = w) (fun i _ => rows.length - (intOf i).toNat)
    case atStart => exact ⟨0, rfl, by omega, rfl⟩
    case round =>
      obtain ⟨k, rfl, hk, rfl⟩ := hrel
      by_cases hlt : k < rows.length
      · obtain ⟨e, c0, c5⟩ := Hcell.out k hlt
        go_wp2
        all_goals first
          | (go_ret; exact ⟨⟨_, rfl⟩, rfl⟩)
          | (go_roundw
             case rel => exact ⟨k + 1, by simp, by omega, by first | rfl | trivial⟩
             case measure => first | (simp [intOf]; done) | (simp [intOf]; omega))
      · go_wp2
        go_ret
        exact ⟨⟨_, rfl⟩, rfl⟩
end Go.Proofs.YtjdgfdpbiidldaaGreatDoor
