/-
  The document's worlds (juristref09): Size ends. Condition: the world lies there.
-/
import Derived.Test.YtjdgfdpbiidldaaGreatDoorFr
namespace Go.Proofs.YtjdgfdpbiidldaaGreatDoor
open Go.RowKit

/-- the rows of a table of a world, as far as Size reads them -/
def RowsAtW (W : World) (v : Value) : Prop := ∃ ra rn rc, v = .slice ra rn rc ∧ rn ≤ 9223372036854775807 ∧ (rn ≠ 0 → ∃ b o, ra = some ⟨b, o, none⟩ ∧ b < W.heap.size ∧ ∀ j, j < rn → ∃ xa xn xc, W.cell? ⟨b, o + j * 6, none⟩ = some (.slice xa xn xc))
/-- the functions of a world, as far as Size reads them -/
def FunsAtW (W : World) (v : Value) : Prop := ∃ ra rn rc, v = .slice ra rn rc ∧ rn ≤ 9223372036854775807 ∧ (rn ≠ 0 → ∃ b o, ra = some ⟨b, o, none⟩ ∧ b < W.heap.size ∧ ∀ j, j < rn → ∃ u, W.cell? ⟨b, o + j * 7 + 1, none⟩ = some u ∧ RowsAtW W u)
theorem RowsAtW.below {W W' : World} {v : Value} (h : RowsAtW W v) (hb : Below W.heap.size W W') : RowsAtW W' v := by
  obtain ⟨ra, rn, rc, rfl, hl, h⟩ := h
  refine ⟨ra, rn, rc, rfl, hl, fun hn => ?_⟩
  obtain ⟨b, o, rfl, hbl, hc⟩ := h hn
  have hs := hb.size
  exact ⟨b, o, rfl, by omega, fun j hj => by obtain ⟨xa, xn, xc, h⟩ := hc j hj; exact ⟨xa, xn, xc, (hb.cell (p := ⟨b, _, none⟩) hbl).trans h⟩⟩
theorem FunsAtW.below {W W' : World} {v : Value} (h : FunsAtW W v) (hb : Below W.heap.size W W') : FunsAtW W' v := by
  obtain ⟨ra, rn, rc, rfl, hl, h⟩ := h
  refine ⟨ra, rn, rc, rfl, hl, fun hn => ?_⟩
  obtain ⟨b, o, rfl, hbl, hc⟩ := h hn
  have hs := hb.size
  exact ⟨b, o, rfl, by omega, fun j hj => by obtain ⟨u, h, hr⟩ := hc j hj; exact ⟨u, (hb.cell (p := ⟨b, _, none⟩) hbl).trans h, hr.below hb⟩⟩

set_option maxHeartbeats 2000000 in
set_option maxRecDepth 100000 in
theorem size_any (a1 : Option Addr) (n1 c1 : Nat) (v2 : Value) (w : World) (h : FunsAtW w v2) :
    Calls Tryz.prog 51 #[.agg #[.slice a1 n1 c1, v2]] w fun e w' => (∃ n, e = .returned (.int .i64 n)) ∧ Below w.heap.size w w' := by
  have h0 := h.below ((Below.refl _ w).alloc (Nat.le_refl _) (.cells #[.slice a1 n1 c1, v2] 29))
  have hb0 := heap_alloc_new w (.cells #[.slice a1 n1 c1, v2] 29)
  have hB0 : Below w.heap.size w (w.alloc (.cells #[.slice a1 n1 c1, v2] 29)) := (Below.refl _ w).alloc (Nat.le_refl _) _
  obtain ⟨W, hW⟩ : ∃ W, W = w.alloc (.cells #[.slice a1 n1 c1, v2] 29) := ⟨_, rfl⟩
  obtain ⟨T, hT⟩ : ∃ T, T = w.heap.size := ⟨_, rfl⟩
  rw [← hW] at h0 hb0 hB0
  obtain ⟨ra, rn, rc, rfl, hl, hrows⟩ := h0
  clear h
  go_enter Tryz.func51, Tryz.ntmps51
  go_wp2
  rw [← hW]
  have cT : W.cell? ⟨w.heap.size, 1, none⟩ = some (.slice ra rn rc) := by rw [Lib.cell_of_heap hb0]; rfl
  rw [← hT] at cT ⊢
  have HB0 := Lib.hid hB0
  have HT := Lib.hid hT
  have Hrows := Lib.hid hrows
  have hl2 : (rn : Int) ≤ 9223372036854775807 := by omega
  have Hl := Lib.hid hl2
  clear hrows hb0 hB0 hW hT hl hl2
  go_loopw [3, 4, 5] (fun v3 v4 _ wr => ∃ (s : Int) (k : Nat), v3 = .int .i64 s ∧ v4 = .int .i64 k ∧ k ≤ rn ∧ wr = W) (fun _ v4 _ _ => rn - (intOf v4).toNat)
  case atStart => exact ⟨_, 0, rfl, rfl, Nat.zero_le _, rfl⟩
  case round =>
    obtain ⟨s, k, rfl, rfl, hk, rfl⟩ := hrel
    by_cases hlt : k < rn
    · obtain ⟨b, o, rfl, hbl, hc⟩ := Hrows.out (by omega)
      obtain ⟨u, cu, ra2, rn2, rc2, rfl, hl2, hrows2⟩ := hc k hlt
      have Hrows2 := Lib.hid hrows2
      have hl2' : (rn2 : Int) ≤ 9223372036854775807 := by omega
      have Hl2 := Lib.hid hl2'
      have hkw : wrap64 ((k : Int) + 1) = (k : Int) + 1 := by have := Hl.out; unfold wrap64; omega
      clear hc hrows2 hl2 hl2'
      go_wp2
      go_loopw [3, 5] (fun v3 v5 w2 => ∃ (s2 : Int) (j : Nat), v3 = .int .i64 s2 ∧ v5 = .int .i64 j ∧ j ≤ rn2 ∧ w2 = wr) (fun _ v5 _ => rn2 - (intOf v5).toNat)
      case atStart => exact ⟨_, 0, rfl, rfl, Nat.zero_le _, rfl⟩
      case round =>
        obtain ⟨s2, j, rfl, rfl, hj, rfl⟩ := hrel
        by_cases hlt2 : j < rn2
        · obtain ⟨b2, o2, rfl, hbl2, hc2⟩ := Hrows2.out (by omega)
          obtain ⟨xa, xn, xc, cx⟩ := hc2 j hlt2
          have hjw : wrap64 ((j : Int) + 1) = (j : Int) + 1 := by have := Hl2.out; unfold wrap64; omega
          clear hc2
          go_wp2
          go_roundw
          case rel => rw [hjw]; exact ⟨_, j + 1, rfl, by simp, by omega, by first | rfl | trivial⟩
          case measure => rw [hjw]; clear hjw; show rn2 - ((j : Int) + 1).toNat < rn2 - (j : Int).toNat; omega
        · go_wp2
          go_roundw
          case rel => rw [hkw]; exact ⟨_, k + 1, rfl, by simp, by omega, by first | rfl | trivial⟩
          case measure => rw [hkw]; clear hkw; show rn - ((k : Int) + 1).toNat < rn - (k : Int).toNat; omega
    · go_wp2
      go_ret
      exact ⟨⟨_, rfl⟩, HB0.out⟩
end Go.Proofs.YtjdgfdpbiidldaaGreatDoor
