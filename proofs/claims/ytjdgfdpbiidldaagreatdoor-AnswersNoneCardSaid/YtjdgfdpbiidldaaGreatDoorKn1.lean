/-
  Layer 27's statements: tables, of one sort. No condition but that the definition lies there.
-/
import Derived.Test.YtjdgfdpbiidldaaGreatDoorRf2
namespace Go.Proofs.YtjdgfdpbiidldaaGreatDoor
open Go.RowKit

theorem isRef_new (B : Nat) (w : World) (hB : B ≤ w.heap.size) : IsRef (w.alloc (.cells #[.slice none 0 0, .slice none 0 0, .int .i64 0] 130)) B w.heap.size :=
  ⟨⟨.slice none 0 0, .slice none 0 0, 0, [], [], heap_alloc_new w _, World.ownsRow_nil _ _ _ _, by simp, World.ownsRow_nil _ _ _ _, by simp, by intro g hg; simp [Value.ownBlock] at hg⟩, hB⟩

def uName : ByteArray := ⟨#[85]⟩
def tabU : TabD := ((⟨NamesD.empty, NamesD.empty⟩ : TabD).declSort uName).1

set_option maxHeartbeats 1000000 in
set_option maxRecDepth 100000 in
theorem tables_U (g cap : Nat) (w : World) (hg : g < w.heap.size) (h0 : w.cell? ⟨g, 0, none⟩ = some (.string ⟨#[85]⟩)) (h1 : w.cell? ⟨g, 1, none⟩ = some (.bool true)) :
    Calls Tryz.prog 16 #[.slice (some ⟨g, 0, none⟩) 1 cap] w fun e w' => ∃ b r, e = .returned (.tuple #[.pointer (some ⟨b, 0, none⟩), .pointer (some ⟨r, 0, none⟩)]) ∧ IsTab w' w.heap.size b tabU ∧ Below w.heap.size w w' := by
  go_enter Tryz.func16, Tryz.ntmps16
  go_wp2_with fail
  refine (new_any w).mono ?_
  rintro e w1 ⟨rfl, hT, hb1, hs1⟩
  obtain ⟨b, hbe⟩ : ∃ b, b = w.heap.size + 2 := ⟨_, rfl⟩
  rw [← hbe] at hT ⊢
  have hR : IsRef (w1.alloc (.cells #[.slice none 0 0, .slice none 0 0, .int .i64 0] 130)) w.heap.size w1.heap.size := isRef_new w.heap.size w1 hb1.size
  have hT2 : IsTab (w1.alloc (.cells #[.slice none 0 0, .slice none 0 0, .int .i64 0] 130)) w.heap.size b ⟨.empty, .empty⟩ := hT.keeps (ts := []) (keeps_alloc _ _ w1 _) (by simp) (by simp) (by simp) (by simp)
  have hb2 : Below w.heap.size w (w1.alloc (.cells #[.slice none 0 0, .slice none 0 0, .int .i64 0] 130)) := hb1.alloc hb1.size _
  clear hT hb1 hbe hs1
  go_wp2
  obtain ⟨W, hW⟩ : ∃ W, W = w1.alloc (.cells #[.slice none 0 0, .slice none 0 0, .int .i64 0] 130) := ⟨_, rfl⟩
  obtain ⟨r, hre⟩ : ∃ r, r = w1.heap.size := ⟨_, rfl⟩
  rw [← hW, ← hre] at hR
  rw [← hW] at hT2 hb2
  rw [← hW, ← hre]
  clear hW hre
  go_loopw [6] (fun i wr => (i = .int .i64 0 ∧ wr = W) ∨ (i = .int .i64 1 ∧ IsTab wr w.heap.size b tabU ∧ Below w.heap.size w wr)) (fun i _ => 1 - (intOf i).toNat)
  case atStart => exact .inl ⟨rfl, rfl⟩
  case round =>
    rcases hrel with ⟨rfl, rfl⟩ | ⟨rfl, hTf, hbf⟩
    · obtain ⟨c0, f0⟩ := bcell hb2
      have h0' : wr.cell? ⟨g, 0, none⟩ = some (.string ⟨#[85]⟩) := (c0 g 0 hg).trans h0
      have h1' : wr.cell? ⟨g, 1, none⟩ = some (.bool true) := (c0 g 1 hg).trans h1
      have hsz := hb2.size
      have hd := declSort_any w.heap.size b ⟨.empty, .empty⟩ uName wr hT2 hsz
      clear c0 f0
      go_wp2_with fail
      refine hd.mono ?_
      rintro e w2 ⟨rfl, hT3, hK3, hb3⟩
      have hR3 := hR.keeps hK3 (by decide) (by decide)
      have hb4 := hb2.trans hb3
      obtain ⟨c0, f0⟩ := bcell hb4
      have h0' : w2.cell? ⟨g, 0, none⟩ = some (.string ⟨#[85]⟩) := (c0 g 0 hg).trans h0
      have hd2 := declSortRef_any w.heap.size r ⟨#[85]⟩ w2 hR3 (by decide) hb4.size
      clear c0 f0 hd
      go_wp2_with fail
      refine hd2.mono ?_
      rintro e w3 ⟨⟨x, y, rfl⟩, hfin⟩
      obtain ⟨hR4, hK4, hb5⟩ := hfin.out
      have hT4 : IsTab w3 w.heap.size b tabU := hT3.keeps hK4 (by decide) (by decide) (by decide) (by decide)
      have hb6 := hb4.trans hb5
      clear hd2 hfin hR4 hK4 hb5 hT3 hb4 hR3 hK3 hb3
      go_wp2
      go_roundw
      case rel => exact .inr ⟨rfl, hT4, hb6⟩
      case measure => simp [intOf]
    · go_wp2
      go_ret2
      exact ⟨_, _, rfl, hTf, hbf⟩
end Go.Proofs.YtjdgfdpbiidldaaGreatDoor
