/-
  Layer 5 (sorts): none, New, SortName, DeclareSort over a table in memory. No condition but that the table lies there.
-/
import Derived.Test.YtjdgfdpbiidldaaGreatDoorTab
namespace Go.Proofs.YtjdgfdpbiidldaaGreatDoor
open Go.RowKit

theorem none_nil (w : World) : Calls Tryz.prog 101 #[.pointer none] w fun e w' => e = .returned (.bool true) ∧ w = w' := by
  go_enter Tryz.func101, Tryz.ntmps101
  go_wp2
  go_ret
  exact ⟨rfl, rfl⟩

theorem none_at (b m : Nat) (w : World) (hc : w.cell? ⟨b, 1, none⟩ = some (.map (some m))) : Calls Tryz.prog 101 #[.pointer (some ⟨b, 0, none⟩)] w fun e w' => e = .returned (.bool false) ∧ w = w' := by
  have hmn := run_eql_map_nil (P := Tryz.prog) w 158 9 3 (some m) Tryz.underlying158
  go_enter Tryz.func101, Tryz.ntmps101
  go_wp2
  go_ret
  exact ⟨rfl, rfl⟩

theorem IsTab.none {w : World} {B b : Nat} {T : TabD} (h : IsTab w B b T) : Calls Tryz.prog 101 #[.pointer (some ⟨b, 0, Option.none⟩)] w fun e w' => e = .returned (.bool false) ∧ w = w' := by
  obtain ⟨⟨vs, ms, vsm, vf, mf, vfm, rs, rf, hb, _⟩, _⟩ := h
  exact none_at b ms w (by rw [Lib.cell_of_heap hb]; rfl)

theorem new_any (w : World) : Calls Tryz.prog 23 #[] w fun e w' => e = .returned (.pointer (some ⟨w.heap.size + 2, 0, none⟩)) ∧ IsTab w' w.heap.size (w.heap.size + 2) ⟨.empty, .empty⟩ ∧ Below w.heap.size w w' ∧ w'.heap.size = w.heap.size + 3 := by
  have hmm := @run_makeMap Tryz.prog
  go_enter Tryz.func23, Tryz.ntmps23
  go_wp2
  go_ret
  refine ⟨rfl, ⟨⟨.slice none 0 0, w.heap.size, .slice none 0 0, .slice none 0 0, w.heap.size + 1, .slice none 0 0, [], [], ?_, ⟨rfl, World.ownsRow_nil _ _ _ _, by simp, ?_, World.ownsRow_nil _ _ _ _, Nat.le_refl _, by simp [NamesD.empty]⟩, ⟨rfl, World.ownsRow_nil _ _ _ _, by simp, ?_, World.ownsRow_nil _ _ _ _, by omega, by simp [NamesD.empty]⟩, by omega, by simp [Value.ownBlock], by simp [Value.ownBlock]⟩, by omega⟩, ?_, by simp⟩
  · have := heap_alloc_new ((w.alloc (Obj.map #[] 0)).alloc (Obj.map #[] 0)) (Obj.cells #[Value.slice none 0 0, Value.map (some w.heap.size), Value.slice none 0 0, Value.slice none 0 0, Value.map (some (w.heap.size + 1)), Value.slice none 0 0] 164)
    simpa using this
  · refine (JM.isM_new (kv := Value.string) w).same ?_
    rw [Lib.alloc_old _ _ _ (by simp; omega), Lib.alloc_old _ _ _ (by simp)]
  · have h1 := JM.isM_new (kv := Value.string) (w.alloc (Obj.map #[] 0))
    simp only [World.size_alloc] at h1
    refine h1.same ?_
    rw [Lib.alloc_old _ _ _ (by simp)]
  · exact (((Below.refl _ w).alloc (Nat.le_refl _) _).alloc (by simp) _).alloc (by simp; omega) _

/-- a sort's name -/
def TabD.sortName (T : TabD) (s : Int) : ByteArray × Int :=
  if s = 0 then (⟨#[66, 111, 111, 108]⟩, 0) else if s = 1 then (⟨#[73, 110, 116]⟩, 0)
  else if s < 2 then (⟨#[]⟩, 7) else match T.sorts.all[(s - 2).toNat]? with | some f => (f.name, 0) | none => (⟨#[]⟩, 7)

set_option maxHeartbeats 1000000 in
set_option maxRecDepth 100000 in
theorem sortName_nil (s : Int) (w : World) : Calls Tryz.prog 60 #[.pointer none, .int .i64 s] w fun e w' => e = .returned (.tuple #[.string ⟨#[]⟩, .int .i64 1]) ∧ w = w' := by
  go_enter Tryz.func60, Tryz.ntmps60
  go_wp2_with (first | (go_at_call 101; refine (none_nil _).mono ?_; rintro e w' ⟨rfl, rfl⟩))
  go_ret2
  exact ⟨rfl, rfl⟩

set_option maxHeartbeats 1000000 in
set_option maxRecDepth 100000 in
theorem sortName_any (B b : Nat) (T : TabD) (s : Int) (w : World) (h : IsTab w B b T) (hs1 : s ≤ 9223372036854775807) :
    Calls Tryz.prog 60 #[.pointer (some ⟨b, 0, none⟩), .int .i64 s] w fun e w' => e = .returned (.tuple #[.string (T.sortName s).1, .int .i64 (T.sortName s).2]) ∧ w = w' := by
  have hn := h.none
  obtain ⟨⟨vs, ms, vsm, vf, mf, vfm, rs, rf, hb, hS, _⟩, _⟩ := h
  obtain ⟨ao, cap, rfl⟩ := ownsRow_len hS.row
  have hc0 : w.cell? ⟨b, 0, none⟩ = some (.slice ao rs.length cap) := by rw [Lib.cell_of_heap hb]; rfl
  have Hn := Lib.hid hn; clear hn
  have hlen : rs.length = T.sorts.all.length := by rw [← hS.hall]; simp
  have Hlen := Lib.hid hlen; clear hlen
  have hfew := hS.few
  have Hs1 := Lib.hid hs1
  clear hs1
  by_cases h0 : s = 0
  · subst h0
    go_enter Tryz.func60, Tryz.ntmps60
    go_wp2_with (first | (go_at_call 101; refine Hn.out.mono ?_; rintro e w' ⟨rfl, rfl⟩))
    go_ret2
    exact ⟨by simp [TabD.sortName], rfl⟩
  by_cases h1 : s = 1
  · subst h1
    go_enter Tryz.func60, Tryz.ntmps60
    go_wp2_with (first | (go_at_call 101; refine Hn.out.mono ?_; rintro e w' ⟨rfl, rfl⟩))
    go_ret2
    exact ⟨by simp [TabD.sortName], rfl⟩
  by_cases h2 : s < 2
  · go_enter Tryz.func60, Tryz.ntmps60
    go_wp2_with (first | (go_at_call 101; refine Hn.out.mono ?_; rintro e w' ⟨rfl, rfl⟩))
    go_ret2
    exact ⟨by simp [TabD.sortName, h0, h1, h2], rfl⟩
  have Hs : Hid (T.sortName s = match T.sorts.all[(s - 2).toNat]? with | some f => (f.name, 0) | none => (⟨#[]⟩, 7)) := by simp [Hid, TabD.sortName, h0, h1, h2]
  have q0 : (s == 0) = false := by simpa using h0
  have q1 : (s == 1) = false := by simpa using h1
  have q2 : decide (s < 2) = false := by simpa using h2
  have hs2 : 2 ≤ s := by omega
  by_cases h3 : (s - 2).toNat < rs.length
  · obtain ⟨p, hp⟩ : ∃ p, rs[(s - 2).toNat]? = some p := ⟨rs[(s - 2).toNat], by simp [h3]⟩
    have hall : T.sorts.all[(s - 2).toNat]? = some p.1 := by rw [← hS.hall]; simp [hp]
    have hcell : ∃ g, ao = some ⟨g, 0, none⟩ ∧ w.cell? ⟨g, (s - 2).toNat * 4, none⟩ = some (.string p.1.name) := by
      rcases ownsRow_shape hS.row with ⟨_, h0⟩ | ⟨g, cap', cur, hv, _⟩
      · omega
      · cases hv
        refine ⟨g, rfl, ?_⟩
        have := hS.row.cellAt ((s - 2).toNat * 4) (by omega)
        rw [this]
        have h4 := flatMap_at funCells 4 funCells_len rs (s - 2).toNat 0 p hp (by omega)
        rw [Nat.add_zero] at h4
        rw [h4]; rfl
    obtain ⟨g, rfl, hcg⟩ := hcell
    have hk : s ≤ 2002 := by have := Hlen.out; omega
    have q3 : decide ((rs.length : Int) ≤ s - 2) = false := by simp; omega
    have q4 : s - 2 < (rs.length : Int) := by omega
    rw [Hs.out, hall]
    clear hall hp hb hS h0 h1 h2 h3 Hs
    go_enter Tryz.func60, Tryz.ntmps60
    go_wp2_with (first | (go_at_call 101; refine Hn.out.mono ?_; rintro e w' ⟨rfl, rfl⟩))
    go_ret2
    exact ⟨rfl, rfl⟩
  · have hall : T.sorts.all[(s - 2).toNat]? = none := by
      rw [← hS.hall]; simp; omega
    have q3 : decide ((rs.length : Int) ≤ s - 2) = true := by simp; omega
    have hw : wrap64 (s - 2) = s - 2 := by have := Hs1.out; unfold wrap64; omega
    rw [Hs.out, hall]
    clear hall hb hS h0 h1 h2 h3 Hs
    go_enter Tryz.func60, Tryz.ntmps60
    go_wp2_with (first | (go_at_call 101; refine Hn.out.mono ?_; rintro e w' ⟨rfl, rfl⟩))
    go_ret2
    exact ⟨rfl, rfl⟩
end Go.Proofs.YtjdgfdpbiidldaaGreatDoor
