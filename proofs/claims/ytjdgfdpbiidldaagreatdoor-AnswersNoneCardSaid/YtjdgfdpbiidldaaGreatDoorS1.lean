/-
  Layer 5 (sorts): the contracts of the functions that look whether a name may be. No condition but the sizes named.
-/
import Derived.Test.YtjdgfdpbiidldaaGreatDoorA0
import Derived.Test.YtjdgfdpbiidldaaGreatDoorShelf
namespace Go.Proofs.YtjdgfdpbiidldaaGreatDoor
open Go.RowKit

theorem info9 : (Tryz.prog.info? 9).map (fun i => (i.zero, i.size, i.bytes)) = some (some (.string ⟨#[]⟩), 1, 16) := by kernel_rfl

/-- the words that no name may be -/
def fixedWords : List ByteArray := [⟨#[95]⟩, ⟨#[33]⟩, ⟨#[97, 115]⟩, ⟨#[108, 101, 116]⟩, ⟨#[101, 120, 105, 115, 116, 115]⟩, ⟨#[102, 111, 114, 97, 108, 108]⟩, ⟨#[109, 97, 116, 99, 104]⟩, ⟨#[112, 97, 114]⟩, ⟨#[66, 73, 78, 65, 82, 89]⟩, ⟨#[68, 69, 67, 73, 77, 65, 76]⟩, ⟨#[72, 69, 88, 65, 68, 69, 67, 73, 77, 65, 76]⟩, ⟨#[78, 85, 77, 69, 82, 65, 76]⟩, ⟨#[83, 84, 82, 73, 78, 71]⟩]

/-- may a name be, beside some words? -/
def mayB (s : ByteArray) (ws : List ByteArray) : Bool :=
  if h : 0 < s.size then decide (s.size ≤ 1000) && !(((s[0]'h).toNat : Int) == 46) && !(((s[0]'h).toNat : Int) == 64) && !Lib.containsS (ws ++ fixedWords) s else false

theorem toList_nil {s : ByteArray} : s.toList = [] ↔ ¬ 0 < s.size := by
  rw [ByteArray.toList_eq]
  have h : s.data.toList.length = s.size := Array.length_toList
  constructor
  · intro e; rw [e] at h; simp at h; omega
  · intro e; exact List.eq_nil_of_length_eq_zero (by omega)

theorem new_cells (w : World) (l : List Value) (e : TypeId) (j : Nat) (u : Value) (h : l[j]? = some u) : (w.alloc (.cells l.toArray e)).cell? ((⟨w.heap.size, 0, none⟩ : Addr).add j) = some u := by
  have h1 : ((⟨w.heap.size, 0, none⟩ : Addr).add j) = ⟨w.heap.size, j, none⟩ := by unfold Addr.add; split <;> simp_all
  rw [h1]
  have h2 := Lib.cell_of_heap (w := w.alloc (.cells l.toArray e)) (b := w.heap.size) (cs := l.toArray) (T := e) (fr := (0, 0)) (heap_alloc_new w _) j
  rw [h2]; simpa using h

set_option maxHeartbeats 1000000 in
set_option maxRecDepth 100000 in
theorem may_any (B : Nat) (s : ByteArray) (g : Nat) (ws : List ByteArray) (w : World) (hown : w.ownsRow B 9 1 (.slice (some ⟨g, 0, none⟩) ws.length ws.length) ws.length (ws.map Value.string)) (hl : ws.length ≤ 100) (hB : B ≤ w.heap.size) :
    Calls Tryz.prog 103 #[.string s, .slice (some ⟨g, 0, none⟩) ws.length ws.length] w fun e w' => e = .returned (.bool (mayB s ws)) ∧ Below B w w' := by
  obtain ⟨i0, hi, hz0, hz1, hz2⟩ := info_parts info9
  go_enter Tryz.func103, Tryz.ntmps103
  go_wp2_with (at_builtin; refine wpList_append_own _ rfl (.tmp 5) (.tmp 6) 45 rfl B 9 i0 (.string ⟨#[]⟩) 1 16 Tryz.underlying45 hi hz0 hz1 hz2 rfl (by decide) _ _ _ rfl (hown.alloc _) ⟨w.heap.size, 0, none⟩ 13 13 (fixedWords.map Value.string) rfl rfl ?c1 ?c2 ?c3 ?c4 ?c5 ?_)
  case c1 => intro j u hu; exact new_cells w _ 9 j u hu
  case c2 => intro u hu; obtain ⟨x, _, rfl⟩ := List.mem_map.1 hu; rfl
  case c3 => unfold maxLen; omega
  case c4 => omega
  case c5 => simp; omega
  intro v' w1 hown1 hgrow _
  have hb1 : Below B w w1 := (((Below.refl B w).alloc hB _).grown hgrow (by simp; omega) (fun k hk => (hown.lt k hk).1))
  rw [← List.map_append] at hown1
  obtain ⟨g', cap, rfl⟩ : ∃ g' cap, v' = .slice (some ⟨g', 0, none⟩) (ws.length + 13) cap := by
    rcases hown1.2 with ⟨_, h0⟩ | ⟨g', cap, cur, hv, _⟩
    · omega
    · exact ⟨g', cap, hv⟩
  have hcc : ∀ j, j < (ws ++ fixedWords).length → w1.cell? ⟨g', 0 + j, none⟩ = some (.string ((ws ++ fixedWords).getD j ByteArray.empty)) := by
    intro j hj
    have h := hown1.cellAt j (by simpa [fixedWords] using hj)
    rw [Nat.zero_add, h, List.getElem?_map, List.getD_eq_getElem?_getD, List.getElem?_eq_getElem hj]; rfl
  have Hcc := Lib.hid hcc
  clear hcc hown1 hgrow
  by_cases hp : 0 < s.size
  · have hne : ¬ s.toList = [] := fun e => toList_nil.1 e hp
    go_wp2_with (go_at_call 176; refine (Tryz.slices_Contains_string g' 0 (ws.length + 13) cap (ws ++ fixedWords) s _ (by simp [fixedWords]) (by omega) Hcc.out).mono ?_; rintro e w' ⟨rfl, rfl⟩)
    all_goals go_ret
    all_goals refine ⟨?_, hb1⟩
    · have h2 : ((s[0]'hp).toNat : Int) = 46 := by assumption
      simp [mayB, hp, h2]
    · have h2 : ((s[0]'hp).toNat : Int) = 64 := by assumption
      simp [mayB, hp, h2]
    · have h4 : (s.size : Int) ≤ 1000 := by assumption
      have h5 : s.size ≤ 1000 := by omega
      have ht : (ws ++ fixedWords).take (ws.length + 13) = ws ++ fixedWords := List.take_of_length_le (by simp [fixedWords])
      have hi : s.toList.isEmpty = false := by simpa using hne
      simp [mayB, hp, h5, hi, ht, bne]
    · have h4 : 1000 < (s.size : Int) := by assumption
      have h5 : ¬ s.size ≤ 1000 := by omega
      simp [mayB, h5]
  · have he : s.toList = [] := toList_nil.2 hp
    go_wp2
    go_ret
    exact ⟨by simp [mayB, hp], hb1⟩
end Go.Proofs.YtjdgfdpbiidldaaGreatDoor
