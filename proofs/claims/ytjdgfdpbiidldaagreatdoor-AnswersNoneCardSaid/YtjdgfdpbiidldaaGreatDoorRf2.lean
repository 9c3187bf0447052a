/-
  The document's table of names (juristref05): DeclareSort. Only what a caller needs that looks at no answer of it. Conditions: sizes.
-/
import Derived.Test.YtjdgfdpbiidldaaGreatDoorRf1
import Derived.Deep.DeepCutAuto
namespace Go.Proofs.YtjdgfdpbiidldaaGreatDoor
open Go.RowKit

theorem info219 : (Tryz.prog.info? 219).map (fun i => (i.zero, i.size, i.bytes)) = some (some (.agg #[.string ⟨#[]⟩, .slice none 0 0, .int .i64 0, .bool false, .int .i64 0, .bool false]), 6, 72) := by kernel_rfl

/-- the document's table lies at b -/
structure IsRef (w : World) (B b : Nat) : Prop where
  ex : ∃ v1 v2 d r1 r2, w.heap[b]? = some (.cells #[v1, v2, .int .i64 d] 130 (0, 0)) ∧ w.ownsRow B 219 6 v1 (r1 : List EntD).length (r1.flatMap entCells) ∧ r1.length ≤ 2000 ∧ w.ownsRow B 219 6 v2 (r2 : List EntD).length (r2.flatMap entCells) ∧ r2.length ≤ 2000 ∧ (∀ g, v1.ownBlock = some g → v2.ownBlock ≠ some g)
  own : B ≤ b

theorem IsRef.keeps {w w' : World} {B b : Nat} (h : IsRef w B b) {ts : List TypeId} {m : Bool} (k : Keeps ts m w w') (h1 : 130 ∉ ts) (h2 : 219 ∉ ts) : IsRef w' B b := by
  obtain ⟨⟨v1, v2, d, r1, r2, hb, ho1, l1, ho2, l2, hv⟩, hB⟩ := h
  exact ⟨⟨v1, v2, d, r1, r2, k b _ hb (by simpa [Touches] using h1), ownsRow_keeps ho1 k h2, l1, ownsRow_keeps ho2 k h2, l2, hv⟩, hB⟩

set_option maxHeartbeats 2000000 in
set_option maxRecDepth 100000 in
theorem declSortRef_any (B b : Nat) (s : ByteArray) (w : World) (h : IsRef w B b) (hs : s.size ≤ 9223372036854775806) (hBw : B ≤ w.heap.size) :
    Calls Tryz.prog 56 #[.pointer (some ⟨b, 0, none⟩), .string s] w fun e w' => (∃ x y, e = .returned (.tuple #[.int .i64 x, .int .i64 y])) ∧ Hid (IsRef w' B b ∧ Keeps [130, 219] false w w' ∧ Below B w w') := by
  have H := Lib.hid h
  obtain ⟨⟨v1, v2, d, r1, r2, hb, ho1, l1, ho2, l2, hv⟩, hB⟩ := h
  have hmay := fun w => mayRef_any s true w hs
  have hfind := fun w' (hh : w'.ownsRow B 219 6 v1 r1.length (r1.flatMap entCells)) => findRef_any B v1 r1 s w' hh l1
  have old : Hid (IsRef w B b ∧ Keeps [130, 219] false w w ∧ Below B w w) := Lib.hid ⟨H.out, Keeps.refl _ _ _, Below.refl _ _⟩
  obtain ⟨i0, hi, hz0, hz1, hz2⟩ := info_parts info219
  obtain ⟨ao, cap, rfl⟩ := ownsRow_len ho1
  have hblt : b < w.heap.size := (Array.getElem?_eq_some_iff.1 hb).1
  have hc0 : w.cell? ⟨b, 0, none⟩ = some (.slice ao r1.length cap) := by rw [Lib.cell_of_heap hb]; rfl
  have hc2 : w.cell? ⟨b, 2, none⟩ = some (.int .i64 d) := by rw [Lib.cell_of_heap hb]; rfl
  have hf0 : w.frozen? ⟨b, 0, none⟩ = false := Lib.frozen_of_heap hb 0
  have Hmay := Lib.hid hmay
  have Hfind := Lib.hid (hfind w ho1)
  clear hmay hfind hs
  go_enter Tryz.func56, Tryz.ntmps56
  go_wp2_with (first | (go_at_call 109; refine (Hmay.out _).mono ?_; rintro e w' ⟨⟨b0, rfl⟩, rfl⟩) | (go_at_call 111; refine Hfind.out.mono ?_; rintro e w' ⟨⟨n0, rfl⟩, rfl⟩))
  all_goals (try (go_ret2; exact ⟨⟨_, _, rfl⟩, old⟩))
  have hlt2 : (r1.length : Int) < 2000 := by assumption
  have hownA : (w.alloc (Obj.cells #[.string s, .slice none 0 0, .int .i64 0, .bool false, .int .i64 d, .bool true] 219)).drew.ownsRow B 219 6 (.slice ao r1.length cap) r1.length (r1.flatMap entCells) := ho1.alloc _
  have HownA := Lib.hid hownA; clear hownA
  have hcellsA : ∀ j u, (entCells ⟨s, .slice none 0 0, 0, false, d, true⟩)[j]? = some u → (w.alloc (Obj.cells #[.string s, .slice none 0 0, .int .i64 0, .bool false, .int .i64 d, .bool true] 219)).drew.cell? ((⟨w.heap.size, 0, none⟩ : Addr).add j) = some u := fun j u hj => new_cells w (entCells ⟨s, .slice none 0 0, 0, false, d, true⟩) 219 j u hj
  have HcellsA := Lib.hid hcellsA; clear hcellsA
  have hone : ∀ u ∈ entCells ⟨s, .slice none 0 0, 0, false, d, true⟩, u.oneCell' = true := by intro u hu; simp [entCells] at hu; rcases hu with rfl | rfl | rfl | rfl | rfl | rfl <;> rfl
  have Hone := Lib.hid hone; clear hone
  have hB1 : B ≤ (w.alloc (Obj.cells #[.string s, .slice none 0 0, .int .i64 0, .bool false, .int .i64 d, .bool true] 219)).drew.heap.size := by simp; omega
  have HB1 := Lib.hid hB1; clear hB1
  have Hlen := Lib.hid l1
  have Ho1 := Lib.hid ho1
  have Ho2 := Lib.hid ho2
  have Hv := Lib.hid hv
  have Hl2 := Lib.hid hlt2
  clear l1 ho1 ho2 hv old H Hmay Hfind
  go_cut [] (fun wx => ∃ g' cap', wx.heap[b]? = some (.cells #[.slice (some ⟨g', 0, none⟩) (r1.length + 1) cap', v2, .int .i64 d] 130 (0, 0)) ∧ wx.ownsRow B 219 6 (.slice (some ⟨g', 0, none⟩) (r1.length + 1) cap') (r1.length + 1) (r1.flatMap entCells ++ entCells ⟨s, .slice none 0 0, 0, false, d, true⟩) ∧
      Upd (fun k => k = b ∨ (Value.slice ao r1.length cap).ownBlock = some k) w wx ∧ ((Value.slice ao r1.length cap).ownBlock = some g' ∨ w.heap.size ≤ g'))
  case first =>
    go_region_law (refine step_append_own rfl (.tmp 29) (.tmp 37) 128 rfl B 219 i0 _ 6 72 Tryz.underlying128 hi hz0 hz1 hz2 rfl (by decide) (.slice ao r1.length cap) r1.length (r1.flatMap entCells) (by simp [Act.eval]) HownA.out ⟨w.heap.size, 0, none⟩ 1 1 (entCells ⟨s, .slice none 0 0, 0, false, d, true⟩) (by simp [Act.eval]) rfl HcellsA.out Hone.out (by have := Hlen.out; unfold maxLen; omega) (by have := Hlen.out; omega) HB1.out ?_; intro v' w' hown' hgrow hwhich; obtain ⟨g', cap', rfl⟩ := ownsRow_pos hown'; have hb2 : w'.heap[b]? = some (.cells #[.slice ao r1.length cap, v2, .int .i64 d] 130 (0, 0)) := (hgrow.block b (by simp; omega) (fun e => by obtain ⟨c, hc⟩ := ownsRow_kind Ho1.out b _ e.symm hb; cases hc)).trans ((Lib.alloc_old w _ b hblt).trans hb); have hc2 : w'.cell? ⟨b, 0, none⟩ = some (.slice ao r1.length cap) := by { rw [Lib.cell_of_heap hb2]; rfl }; have hf2 : w'.frozen? ⟨b, 0, none⟩ = false := Lib.frozen_of_heap hb2 0; have Hb2 := Lib.hid hb2; have Hown' := Lib.hid hown'; have Hgrow := Lib.hid hgrow; clear hb2 hown' hgrow)
    all_goals (go_wp2_with fail; go_meet)
    all_goals
      have hne : g' ≠ b := by
        intro e
        obtain ⟨c, hc⟩ := ownsRow_kind Hown'.out g' _ rfl (e ▸ Hb2.out)
        cases hc
      refine ⟨g', cap', heap_set_at Hb2.out 0 _, ownsRow_same Hown'.out (fun g hg => Below.heap_setCell _ _ _ _ (by simp [Value.ownBlock] at hg; subst hg; exact hne)), (((Upd.refl (fun k => k = b ∨ (Value.slice ao r1.length cap).ownBlock = some k) w).alloc _).drew.grown Hgrow.out (fun k hk _ => Or.inr hk)).setCell (p := ⟨b, 0, none⟩) (fun _ => Or.inl rfl) _, ?_⟩
      rcases hwhich g' rfl with h | h
      · exact .inl h
      · exact .inr (by simp at h; omega)
  case rest =>
    obtain ⟨g', cap', hb2, hown2, hupd2, hw2⟩ := hcut
    have d0 : wc.cell? ⟨b, 0, none⟩ = some (.slice (some ⟨g', 0, none⟩) (r1.length + 1) cap') := by rw [Lib.cell_of_heap hb2]; rfl
    have hlb : b < w.heap.size := hblt
    have hv2 : ∀ g, v2.ownBlock = some g → wc.heap[g]? = w.heap[g]? := fun g hg => hupd2.block g (Ho2.out.lt g hg).2 (by
      rintro (e | e)
      · subst e
        obtain ⟨c, hc⟩ := ownsRow_kind Ho2.out g _ hg hb
        cases hc
      · exact Hv.out g e hg)
    have hfin : IsRef wc B b ∧ Keeps [130, 219] false w wc ∧ Below B w wc := by
      refine ⟨⟨⟨.slice (some ⟨g', 0, none⟩) (r1.length + 1) cap', v2, d, r1 ++ [⟨s, .slice none 0 0, 0, false, d, true⟩], r2, hb2, by simpa using hown2, by simp; have := Hl2.out; omega, ownsRow_same Ho2.out hv2, l2, ?_⟩, hB⟩, ?_, ?_⟩
      · intro g hg hg2
        simp [Value.ownBlock] at hg
        subst hg
        rcases hw2 with e | e
        · exact Hv.out _ e hg2
        · have := (Ho2.out.lt _ hg2).2; omega
      · refine hupd2.keeps ?_
        rintro k o (rfl | e) hk
        · rw [hb] at hk; cases hk; simp [Touches]
        · obtain ⟨c, rfl⟩ := ownsRow_kind Ho1.out k _ e hk
          simp [Touches]
      · refine hupd2.below hBw ?_
        rintro k hk (rfl | e)
        · omega
        · have := (Ho1.out.lt k e).1; omega
    have Hfin := Lib.hid hfin
    clear hfin hv2 hb2 hown2 hupd2 hw2
    go_wp2
    go_ret2
    exact ⟨⟨_, _, rfl⟩, Hfin⟩
end Go.Proofs.YtjdgfdpbiidldaaGreatDoor
