/-
  Layer 6, world: see of true and of false (laid by gen_st6.py).
  Layer 6, world: Values and Value of a term without arguments in the empty world. Conditions: the store lies there; the term is one of its own.
  Layer 7 (elab): there, isSymbol, find in no scope, look at a numeral and at true or false. Conditions: the reader lies there; the numeral is short.
  Layer 7 (elab): look at a numeral, and at true or false. Conditions: the reader lies there; the numeral is short.
  Layer 7 (elab): name and look at true and at false (laid by gen_el3.py). Conditions: the reader lies there.
  Layer 7 (elab): plain, asTerm, reader.term. Conditions: the value has no bases.
  Layer 7 (elab): the table of words (laid by gen_el5.py). No condition.
-/
import Derived.Test.YtjdgfdpbiidldaaGreatDoorRdM9
import Derived.Test.YtjdgfdpbiidldaaGreatDoorRdM7
import Derived.Test.YtjdgfdpbiidldaaGreatDoorRdM8
namespace Go.Proofs.YtjdgfdpbiidldaaGreatDoor
open Go.RowKit

set_option maxHeartbeats 4000000 in
set_option maxRecDepth 100000 in
theorem see_true (B0 B b s : Nat) (S : StoreD) (t : Nat) (num fn so : Int) (w : World) (h : IsStore w B0 b S) (hn : S.nodes[t]? = some ⟨1, fn, num, so, []⟩) (hs : IsSeer w B s b) (hBw : B ≤ w.heap.size) :
    Calls Tryz.prog 160 #[.pointer (some ⟨s, 0, none⟩), .int .i64 t] w fun e w' => e = .returned (.tuple #[nodeVal ⟨1, fn, num, so, []⟩, .int .i64 0]) ∧ Below B w w' := by
  obtain ⟨mf, mv, h1, h2, h3⟩ := hs
  have hlk : (Instr.lookup 289 (.map (some mv)) (.int .i64 t) true).run Tryz.prog (w.alloc (.cells #[.int .i64 0, .bool false, .int .i64 0, .int .i64 0, .int .i64 0] 51)) = .ok (.tuple #[.agg #[.int .i64 0, .bool false, .int .i64 0, .int .i64 0, .int .i64 0], .bool false]) (w.alloc (.cells #[.int .i64 0, .bool false, .int .i64 0, .int .i64 0, .int .i64 0] 51)) := by
    have h4 : JM.IsM (Value.int .i64) (w.alloc (.cells #[.int .i64 0, .bool false, .int .i64 0, .int .i64 0, .int .i64 0] 51)) mv [] := h2.same (Lib.alloc_old _ _ _ h2.lt)
    exact JM.run_lookup (P := Tryz.prog) (JM.int_kind Tryz.underlying75) Tryz.underlying289 h4 (z := .agg #[.int .i64 0, .bool false, .int .i64 0, .int .i64 0, .int .i64 0]) (Tryz.zeroValue51 _) (t : Int) true
  have hslt : s < w.heap.size := (Array.getElem?_eq_some_iff.1 h1).1
  have h1' := (Lib.alloc_old w (.cells #[.int .i64 0, .bool false, .int .i64 0, .int .i64 0, .int .i64 0] 51) s hslt).trans h1
  have c2 : (w.alloc (.cells #[.int .i64 0, .bool false, .int .i64 0, .int .i64 0, .int .i64 0] 51)).cell? ⟨s, 2, none⟩ = some (.map (some mv)) := by rw [Lib.cell_of_heap h1']; rfl
  have hbel : Below w.heap.size w ((w.alloc (.cells #[.int .i64 0, .bool false, .int .i64 0, .int .i64 0, .int .i64 0] 51)).alloc (.cells #[.int .i64 0, .bool false, .int .i64 0, .int .i64 0, .int .i64 0] 51)) := ((Below.refl _ w).alloc (Nat.le_refl _) _).alloc (by simp) _
  have h1'' := (hbel.block s hslt).trans h1
  have c0 : ((w.alloc (.cells #[.int .i64 0, .bool false, .int .i64 0, .int .i64 0, .int .i64 0] 51)).alloc (.cells #[.int .i64 0, .bool false, .int .i64 0, .int .i64 0, .int .i64 0] 51)).cell? ⟨s, 0, none⟩ = some (.pointer (some ⟨b, 0, none⟩)) := by rw [Lib.cell_of_heap h1'']; rfl
  have hnode := node_any B0 b S t ⟨1, fn, num, so, []⟩ _ (h.same hbel) hn rfl
  have hsz : w.heap.size + 2 ≤ ((w.alloc (.cells #[.int .i64 0, .bool false, .int .i64 0, .int .i64 0, .int .i64 0] 51)).alloc (.cells #[.int .i64 0, .bool false, .int .i64 0, .int .i64 0, .int .i64 0] 51)).heap.size := by simp
  have Hnode := Lib.hid hnode
  have hT : ((w.alloc (.cells #[.int .i64 0, .bool false, .int .i64 0, .int .i64 0, .int .i64 0] 51)).alloc (.cells #[.int .i64 0, .bool false, .int .i64 0, .int .i64 0, .int .i64 0] 51)).heap[w.heap.size]? = some (.cells #[.int .i64 0, .bool false, .int .i64 0, .int .i64 0, .int .i64 0] 51 (0, 0)) := by rw [Lib.alloc_old _ _ _ (by simp)]; exact heap_alloc_new w _
  have HT := Lib.hid hT
  have Hsz := Lib.hid hsz
  have H1 := Lib.hid h1
  have H2 := Lib.hid h2
  have Hbel := Lib.hid hbel
  clear hnode h h1 h2 hn h1' h1'' hbel hsz hT
  go_enter Tryz.func160, Tryz.ntmps160
  go_wp2_with fail
  refine Hnode.out.mono ?_
  rintro e w2 ⟨rfl, hb2⟩
  have hb2' := Hbel.out.trans (hb2.mono (by simp; omega))
  have hsz2 : w.heap.size + 2 ≤ w2.heap.size := Nat.le_trans Hsz.out hb2.size
  have hT2 := (hb2.block w.heap.size (by simp; omega)).trans HT.out
  have hbA : Below w.heap.size w ((w2.alloc (.cells #[.int .u8 1, .int .i64 fn, .int .i64 num, .int .i64 so, .slice none 0 0] 172)).alloc (.cells #[.int .i64 0, .bool true, .int .i64 0, .int .i64 0, .int .i64 0] 51)) := (hb2'.alloc (by omega) _).alloc (by simp; omega) _
  have hzA := heap_alloc_new (w2.alloc (.cells #[.int .u8 1, .int .i64 fn, .int .i64 num, .int .i64 so, .slice none 0 0] 172)) (.cells #[.int .i64 0, .bool true, .int .i64 0, .int .i64 0, .int .i64 0] 51)
  rw [World.size_alloc] at hzA
  have hS2 : JM.IsM (Value.int .i64) ((w2.alloc (.cells #[.int .u8 1, .int .i64 fn, .int .i64 num, .int .i64 so, .slice none 0 0] 172)).alloc (.cells #[.int .i64 0, .bool true, .int .i64 0, .int .i64 0, .int .i64 0] 51)).drew mv [] := H2.out.same (by have := H2.out.lt; show ((w2.alloc (.cells #[.int .u8 1, .int .i64 fn, .int .i64 num, .int .i64 so, .slice none 0 0] 172)).alloc (.cells #[.int .i64 0, .bool true, .int .i64 0, .int .i64 0, .int .i64 0] 51)).heap[mv]? = _; rw [hbA.block mv this])
  obtain ⟨w6, hup, hS3, hg3⟩ := JM.run_update (P := Tryz.prog) (JM.int_kind Tryz.underlying75) Tryz.underlying289 hS2 (t : Int) (.agg #[.int .i64 0, .bool true, .int .i64 0, .int .i64 0, .int .i64 0])
  have hT4 := ((Lib.alloc_old (w2.alloc (.cells #[.int .u8 1, .int .i64 fn, .int .i64 num, .int .i64 so, .slice none 0 0] 172)) (.cells #[.int .i64 0, .bool true, .int .i64 0, .int .i64 0, .int .i64 0] 51) w.heap.size (by simp; omega)).trans ((Lib.alloc_old w2 (.cells #[.int .u8 1, .int .i64 fn, .int .i64 num, .int .i64 so, .slice none 0 0] 172) w.heap.size (by omega)).trans hT2))
  have hT6 := (hg3.block w.heap.size (by show _ < ((w2.alloc (.cells #[.int .u8 1, .int .i64 fn, .int .i64 num, .int .i64 so, .slice none 0 0] 172)).alloc (.cells #[.int .i64 0, .bool true, .int .i64 0, .int .i64 0, .int .i64 0] 51)).heap.size; simp; omega) (by have := H2.out.lt; simpa using (show w.heap.size ≠ mv by omega))).trans hT4
  have hV6 := (hg3.block (w2.heap.size + 1) (by show _ < ((w2.alloc (.cells #[.int .u8 1, .int .i64 fn, .int .i64 num, .int .i64 so, .slice none 0 0] 172)).alloc (.cells #[.int .i64 0, .bool true, .int .i64 0, .int .i64 0, .int .i64 0] 51)).heap.size; simp) (by have := H2.out.lt; simpa using (show w2.heap.size + 1 ≠ mv by omega))).trans hzA
  obtain ⟨⟨a0, a1, a2, a3, a4⟩, b0, b1, b2, b3, b4⟩ := cells5 hT6
  obtain ⟨⟨q0, q1, q2, q3, q4⟩, _⟩ := cells5 hV6
  have c2' : ((w2.alloc (.cells #[.int .u8 1, .int .i64 fn, .int .i64 num, .int .i64 so, .slice none 0 0] 172)).alloc (.cells #[.int .i64 0, .bool true, .int .i64 0, .int .i64 0, .int .i64 0] 51)).cell? ⟨s, 2, none⟩ = some (.map (some mv)) := by rw [Lib.cell_of_heap ((hbA.block s hslt).trans H1.out)]; rfl
  have HT6 := Lib.hid hT6
  have HbA := Lib.hid hbA
  have Hg3 := Lib.hid hg3
  clear hb2 hb2' hT2 hbA hzA hS2 hS3 hg3 hT4 hT6 hV6
  go_wp2_with fail
  refine wp_loop_rounds 1 ?_
  rw [rounds_succ]
  go_wp2_with fail
  go_region
  go_wp2_with fail
  obtain ⟨W7, hW7, l1, l2, l3, l4⟩ := set5 (.int .i64 0) (.bool true) (.int .i64 0) (.int .i64 0) (.int .i64 0) HT6.out
  rw [← hW7]
  obtain ⟨⟨r0, r1, r2, r3, r4⟩, _⟩ := cells5 l1
  have hU : Upd (fun k => k = mv) w w6 := ((Upd.of_all HbA.out _).drew).grown Hg3.out (fun k hk _ => (Option.some.inj hk).symm)
  have hB6 : Below B w w6 := hU.below hBw (fun k hk hS => by omega)
  exact bodyPost_ret (v := .tuple #[.agg #[.int .i64 0, .bool true, .int .i64 0, .int .i64 0, .int .i64 0], .int .i64 0]) (by simp [results, Tryz.results160, go_sem, r0, r1, r2, r3, r4]) rfl ⟨rfl, hB6.trans (l4 B hBw)⟩

set_option maxHeartbeats 4000000 in
set_option maxRecDepth 100000 in
theorem see_false (B0 B b s : Nat) (S : StoreD) (t : Nat) (num fn so : Int) (w : World) (h : IsStore w B0 b S) (hn : S.nodes[t]? = some ⟨2, fn, num, so, []⟩) (hs : IsSeer w B s b) (hBw : B ≤ w.heap.size) :
    Calls Tryz.prog 160 #[.pointer (some ⟨s, 0, none⟩), .int .i64 t] w fun e w' => e = .returned (.tuple #[nodeVal ⟨2, fn, num, so, []⟩, .int .i64 0]) ∧ Below B w w' := by
  obtain ⟨mf, mv, h1, h2, h3⟩ := hs
  have hlk : (Instr.lookup 289 (.map (some mv)) (.int .i64 t) true).run Tryz.prog (w.alloc (.cells #[.int .i64 0, .bool false, .int .i64 0, .int .i64 0, .int .i64 0] 51)) = .ok (.tuple #[.agg #[.int .i64 0, .bool false, .int .i64 0, .int .i64 0, .int .i64 0], .bool false]) (w.alloc (.cells #[.int .i64 0, .bool false, .int .i64 0, .int .i64 0, .int .i64 0] 51)) := by
    have h4 : JM.IsM (Value.int .i64) (w.alloc (.cells #[.int .i64 0, .bool false, .int .i64 0, .int .i64 0, .int .i64 0] 51)) mv [] := h2.same (Lib.alloc_old _ _ _ h2.lt)
    exact JM.run_lookup (P := Tryz.prog) (JM.int_kind Tryz.underlying75) Tryz.underlying289 h4 (z := .agg #[.int .i64 0, .bool false, .int .i64 0, .int .i64 0, .int .i64 0]) (Tryz.zeroValue51 _) (t : Int) true
  have hslt : s < w.heap.size := (Array.getElem?_eq_some_iff.1 h1).1
  have h1' := (Lib.alloc_old w (.cells #[.int .i64 0, .bool false, .int .i64 0, .int .i64 0, .int .i64 0] 51) s hslt).trans h1
  have c2 : (w.alloc (.cells #[.int .i64 0, .bool false, .int .i64 0, .int .i64 0, .int .i64 0] 51)).cell? ⟨s, 2, none⟩ = some (.map (some mv)) := by rw [Lib.cell_of_heap h1']; rfl
  have hbel : Below w.heap.size w ((w.alloc (.cells #[.int .i64 0, .bool false, .int .i64 0, .int .i64 0, .int .i64 0] 51)).alloc (.cells #[.int .i64 0, .bool false, .int .i64 0, .int .i64 0, .int .i64 0] 51)) := ((Below.refl _ w).alloc (Nat.le_refl _) _).alloc (by simp) _
  have h1'' := (hbel.block s hslt).trans h1
  have c0 : ((w.alloc (.cells #[.int .i64 0, .bool false, .int .i64 0, .int .i64 0, .int .i64 0] 51)).alloc (.cells #[.int .i64 0, .bool false, .int .i64 0, .int .i64 0, .int .i64 0] 51)).cell? ⟨s, 0, none⟩ = some (.pointer (some ⟨b, 0, none⟩)) := by rw [Lib.cell_of_heap h1'']; rfl
  have hnode := node_any B0 b S t ⟨2, fn, num, so, []⟩ _ (h.same hbel) hn rfl
  have hsz : w.heap.size + 2 ≤ ((w.alloc (.cells #[.int .i64 0, .bool false, .int .i64 0, .int .i64 0, .int .i64 0] 51)).alloc (.cells #[.int .i64 0, .bool false, .int .i64 0, .int .i64 0, .int .i64 0] 51)).heap.size := by simp
  have Hnode := Lib.hid hnode
  have hT : ((w.alloc (.cells #[.int .i64 0, .bool false, .int .i64 0, .int .i64 0, .int .i64 0] 51)).alloc (.cells #[.int .i64 0, .bool false, .int .i64 0, .int .i64 0, .int .i64 0] 51)).heap[w.heap.size]? = some (.cells #[.int .i64 0, .bool false, .int .i64 0, .int .i64 0, .int .i64 0] 51 (0, 0)) := by rw [Lib.alloc_old _ _ _ (by simp)]; exact heap_alloc_new w _
  have HT := Lib.hid hT
  have Hsz := Lib.hid hsz
  have H1 := Lib.hid h1
  have H2 := Lib.hid h2
  have Hbel := Lib.hid hbel
  clear hnode h h1 h2 hn h1' h1'' hbel hsz hT
  go_enter Tryz.func160, Tryz.ntmps160
  go_wp2_with fail
  refine Hnode.out.mono ?_
  rintro e w2 ⟨rfl, hb2⟩
  have hb2' := Hbel.out.trans (hb2.mono (by simp; omega))
  have hsz2 : w.heap.size + 2 ≤ w2.heap.size := Nat.le_trans Hsz.out hb2.size
  have hT2 := (hb2.block w.heap.size (by simp; omega)).trans HT.out
  have hbA : Below w.heap.size w ((w2.alloc (.cells #[.int .u8 2, .int .i64 fn, .int .i64 num, .int .i64 so, .slice none 0 0] 172)).alloc (.cells #[.int .i64 0, .bool false, .int .i64 0, .int .i64 0, .int .i64 0] 51)) := (hb2'.alloc (by omega) _).alloc (by simp; omega) _
  have hzA := heap_alloc_new (w2.alloc (.cells #[.int .u8 2, .int .i64 fn, .int .i64 num, .int .i64 so, .slice none 0 0] 172)) (.cells #[.int .i64 0, .bool false, .int .i64 0, .int .i64 0, .int .i64 0] 51)
  rw [World.size_alloc] at hzA
  have hS2 : JM.IsM (Value.int .i64) ((w2.alloc (.cells #[.int .u8 2, .int .i64 fn, .int .i64 num, .int .i64 so, .slice none 0 0] 172)).alloc (.cells #[.int .i64 0, .bool false, .int .i64 0, .int .i64 0, .int .i64 0] 51)).drew mv [] := H2.out.same (by have := H2.out.lt; show ((w2.alloc (.cells #[.int .u8 2, .int .i64 fn, .int .i64 num, .int .i64 so, .slice none 0 0] 172)).alloc (.cells #[.int .i64 0, .bool false, .int .i64 0, .int .i64 0, .int .i64 0] 51)).heap[mv]? = _; rw [hbA.block mv this])
  obtain ⟨w6, hup, hS3, hg3⟩ := JM.run_update (P := Tryz.prog) (JM.int_kind Tryz.underlying75) Tryz.underlying289 hS2 (t : Int) (.agg #[.int .i64 0, .bool false, .int .i64 0, .int .i64 0, .int .i64 0])
  have hT4 := ((Lib.alloc_old (w2.alloc (.cells #[.int .u8 2, .int .i64 fn, .int .i64 num, .int .i64 so, .slice none 0 0] 172)) (.cells #[.int .i64 0, .bool false, .int .i64 0, .int .i64 0, .int .i64 0] 51) w.heap.size (by simp; omega)).trans ((Lib.alloc_old w2 (.cells #[.int .u8 2, .int .i64 fn, .int .i64 num, .int .i64 so, .slice none 0 0] 172) w.heap.size (by omega)).trans hT2))
  have hT6 := (hg3.block w.heap.size (by show _ < ((w2.alloc (.cells #[.int .u8 2, .int .i64 fn, .int .i64 num, .int .i64 so, .slice none 0 0] 172)).alloc (.cells #[.int .i64 0, .bool false, .int .i64 0, .int .i64 0, .int .i64 0] 51)).heap.size; simp; omega) (by have := H2.out.lt; simpa using (show w.heap.size ≠ mv by omega))).trans hT4
  have hV6 := (hg3.block (w2.heap.size + 1) (by show _ < ((w2.alloc (.cells #[.int .u8 2, .int .i64 fn, .int .i64 num, .int .i64 so, .slice none 0 0] 172)).alloc (.cells #[.int .i64 0, .bool false, .int .i64 0, .int .i64 0, .int .i64 0] 51)).heap.size; simp) (by have := H2.out.lt; simpa using (show w2.heap.size + 1 ≠ mv by omega))).trans hzA
  obtain ⟨⟨a0, a1, a2, a3, a4⟩, b0, b1, b2, b3, b4⟩ := cells5 hT6
  obtain ⟨⟨q0, q1, q2, q3, q4⟩, _⟩ := cells5 hV6
  have c2' : ((w2.alloc (.cells #[.int .u8 2, .int .i64 fn, .int .i64 num, .int .i64 so, .slice none 0 0] 172)).alloc (.cells #[.int .i64 0, .bool false, .int .i64 0, .int .i64 0, .int .i64 0] 51)).cell? ⟨s, 2, none⟩ = some (.map (some mv)) := by rw [Lib.cell_of_heap ((hbA.block s hslt).trans H1.out)]; rfl
  have HT6 := Lib.hid hT6
  have HbA := Lib.hid hbA
  have Hg3 := Lib.hid hg3
  clear hb2 hb2' hT2 hbA hzA hS2 hS3 hg3 hT4 hT6 hV6
  go_wp2_with fail
  refine wp_loop_rounds 1 ?_
  rw [rounds_succ]
  go_wp2_with fail
  go_region
  go_wp2_with fail
  obtain ⟨W7, hW7, l1, l2, l3, l4⟩ := set5 (.int .i64 0) (.bool false) (.int .i64 0) (.int .i64 0) (.int .i64 0) HT6.out
  rw [← hW7]
  obtain ⟨⟨r0, r1, r2, r3, r4⟩, _⟩ := cells5 l1
  have hU : Upd (fun k => k = mv) w w6 := ((Upd.of_all HbA.out _).drew).grown Hg3.out (fun k hk _ => (Option.some.inj hk).symm)
  have hB6 : Below B w w6 := hU.below hBw (fun k hk hS => by omega)
  exact bodyPost_ret (v := .tuple #[.agg #[.int .i64 0, .bool false, .int .i64 0, .int .i64 0, .int .i64 0], .int .i64 0]) (by simp [results, Tryz.results160, go_sem, r0, r1, r2, r3, r4]) rfl ⟨rfl, hB6.trans (l4 B hBw)⟩
end Go.Proofs.YtjdgfdpbiidldaaGreatDoor

namespace Go.Proofs.YtjdgfdpbiidldaaGreatDoor
open Go.RowKit

theorem see_any (B0 B b s : Nat) (S : StoreD) (t : Nat) (n : NodeD) (w : World) (h : IsStore w B0 b S) (hn : S.nodes[t]? = some n) (ha : n.args = []) (ho : n.op = 1 ∨ n.op = 2 ∨ n.op = 3) (hs : IsSeer w B s b) (hBw : B ≤ w.heap.size) :
    Calls Tryz.prog 160 #[.pointer (some ⟨s, 0, none⟩), .int .i64 t] w fun e w' => e = .returned (.tuple #[nodeVal n, .int .i64 0]) ∧ Below B w w' := by
  obtain ⟨op, fn, num, so, args⟩ := n
  simp only at ha ho
  subst ha
  rcases ho with rfl | rfl | rfl
  · exact see_true B0 B b s S t num fn so w h hn hs hBw
  · exact see_false B0 B b s S t num fn so w h hn hs hBw
  · exact see_num B0 B b s S t num fn so w h hn hs hBw

theorem nodeVal_cells (n : NodeD) : ∃ s bo hi lo, nodeVal n = .agg #[.int .i64 s, .bool bo, .int .i64 hi, .int .i64 lo, .int .i64 0] := by
  unfold nodeVal
  split
  · exact ⟨_, _, _, _, rfl⟩
  · exact ⟨_, _, _, _, rfl⟩

theorem info51 : (Tryz.prog.info? 51).map (fun i => (i.zero, i.size, i.bytes)) = some (some (.agg #[.int .i64 0, .bool false, .int .i64 0, .int .i64 0, .int .i64 0]), 5, 40) := by kernel_rfl

def aggCells : Value → List Value
  | .agg cs => cs.toList
  | _ => []

set_option maxHeartbeats 4000000 in
set_option maxRecDepth 100000 in
theorem values_one (B0 b g c : Nat) (S : StoreD) (t : Nat) (n : NodeD) (w : World) (h : IsStore w B0 b S) (hn : S.nodes[t]? = some n) (ha : n.args = []) (ho : n.op = 1 ∨ n.op = 2 ∨ n.op = 3) (hg : g < w.heap.size) (h0 : w.cell? ⟨g, 0, none⟩ = some (.int .i64 t)) :
    Calls Tryz.prog 82 #[.pointer (some ⟨b, 0, none⟩), .agg #[.slice none 0 0, .slice none 0 0], .slice (some ⟨g, 0, none⟩) 1 c] w fun e w' => ∃ g' c', e = .returned (.tuple #[.slice (some ⟨g', 0, none⟩) 1 c', .int .i64 0]) ∧ (∀ (j : Nat) (u : Value), (aggCells (nodeVal n))[j]? = some u → w'.cell? ⟨g', j, none⟩ = some u) ∧ Below w.heap.size w w' := by
  obtain ⟨i0, hi, hz0, hz1, hz2⟩ := info_parts info51
  have hmm := @run_makeMap Tryz.prog
  have hsee : Calls Tryz.prog 160 #[.pointer (some ⟨w.heap.size + 1 + 1 + 1, 0, none⟩), .int .i64 t] ((((w.alloc (.cells #[.slice none 0 0, .slice none 0 0] 29)).alloc (.map #[] 0)).alloc (.map #[] 0)).alloc (.cells #[.pointer (some ⟨b, 0, none⟩), .map (some (w.heap.size + 1)), .map (some (w.heap.size + 1 + 1))] 291)) fun e w' => e = .returned (.tuple #[nodeVal n, .int .i64 0]) ∧ Below w.heap.size ((((w.alloc (.cells #[.slice none 0 0, .slice none 0 0] 29)).alloc (.map #[] 0)).alloc (.map #[] 0)).alloc (.cells #[.pointer (some ⟨b, 0, none⟩), .map (some (w.heap.size + 1)), .map (some (w.heap.size + 1 + 1))] 291)) w' := by
    have hb4 : Below w.heap.size w ((((w.alloc (.cells #[.slice none 0 0, .slice none 0 0] 29)).alloc (.map #[] 0)).alloc (.map #[] 0)).alloc (.cells #[.pointer (some ⟨b, 0, none⟩), .map (some (w.heap.size + 1)), .map (some (w.heap.size + 1 + 1))] 291)) := ((((Below.refl _ w).alloc (Nat.le_refl _) _).alloc (by simp) _).alloc (by simp; omega) _).alloc (by simp; omega) _
    refine see_any B0 w.heap.size b (w.heap.size + 1 + 1 + 1) S t n _ (h.same hb4) hn ha ho ?_ hb4.size
    refine ⟨w.heap.size + 1, w.heap.size + 1 + 1, ?_, ?_, by omega⟩
    · have := heap_alloc_new (((w.alloc (.cells #[.slice none 0 0, .slice none 0 0] 29)).alloc (.map #[] 0)).alloc (.map #[] 0)) (.cells #[.pointer (some ⟨b, 0, none⟩), .map (some (w.heap.size + 1)), .map (some (w.heap.size + 1 + 1))] 291)
      simpa using this
    · have h1 := JM.isM_new (kv := Value.int .i64) ((w.alloc (.cells #[.slice none 0 0, .slice none 0 0] 29)).alloc (Obj.map #[] 0))
      simp only [World.size_alloc] at h1
      refine h1.same ?_
      rw [Lib.alloc_old _ _ _ (by simp)]
  have hbel : Below w.heap.size w ((((w.alloc (.cells #[.slice none 0 0, .slice none 0 0] 29)).alloc (.map #[] 0)).alloc (.map #[] 0)).alloc (.cells #[.pointer (some ⟨b, 0, none⟩), .map (some (w.heap.size + 1)), .map (some (w.heap.size + 1 + 1))] 291)) := ((((Below.refl _ w).alloc (Nat.le_refl _) _).alloc (by simp) _).alloc (by simp; omega) _).alloc (by simp; omega) _
  have c0 : (((((w.alloc (.cells #[.slice none 0 0, .slice none 0 0] 29)).alloc (.map #[] 0)).alloc (.map #[] 0)).alloc (.cells #[.pointer (some ⟨b, 0, none⟩), .map (some (w.heap.size + 1)), .map (some (w.heap.size + 1 + 1))] 291))).cell? ⟨g, 0, none⟩ = some (.int .i64 t) := (hbel.cell (p := ⟨g, 0, none⟩) hg).trans h0
  obtain ⟨vs, vb, vh, vl, hv⟩ := nodeVal_cells n
  rw [hv] at hsee ⊢
  have Hsee := Lib.hid hsee
  have Hbel := Lib.hid hbel
  have Hi := Lib.hid hi
  clear hn h hsee hbel hv h0 ha ho
  go_enter Tryz.func82, Tryz.ntmps82
  go_wp2_with fail
  refine wp_loop_rounds 1 ?_
  rw [rounds_succ]
  go_wp2_with fail
  refine wp_loop_rounds 2 ?_
  rw [rounds_succ]
  go_wp2_with (go_at_call 160; refine Hsee.out.mono ?_; rintro e w2 ⟨rfl, hb2⟩; have Hb2 := Lib.hid hb2; clear hb2)
  obtain ⟨k, hk⟩ : ∃ k, k = ((Question.appendCap 1 0 51).cut (w2.tape w2.drawn (Question.appendCap 1 0 51))) := ⟨_, rfl⟩
  rw [← hk]
  clear hk
  rw [rounds_succ]
  go_wp2_with fail
  go_ret2
  refine ⟨_, _, rfl, ?_, ?_⟩
  · intro j u hj
    have h := heap_alloc_new ((w2.alloc (Obj.cells #[.int .i64 vs, .bool vb, .int .i64 vh, .int .i64 vl, .int .i64 0] 51)).alloc (Obj.cells #[.int .i64 vs, .bool vb, .int .i64 vh, .int .i64 vl, .int .i64 0] 51)) (Obj.cells (#[.int .i64 vs, .bool vb, .int .i64 vh, .int .i64 vl, .int .i64 0] ++ Builtin.zeroCells #[.int .i64 0, .bool false, .int .i64 0, .int .i64 0, .int .i64 0] (k - 1)) 51)
    simp only [World.size_alloc] at h
    refine (Lib.cell_of_heap h j).trans ?_
    have hl := (List.getElem?_eq_some_iff.1 hj).1
    rw [Array.getElem?_append_left (by simpa [aggCells] using hl)]
    simpa [aggCells] using hj
  · refine Hbel.out.trans ?_
    have h2 := Hb2.out.size
    simp only [World.size_alloc] at h2
    have h3 := ((Hb2.out.alloc (by omega) (Obj.cells #[.int .i64 vs, .bool vb, .int .i64 vh, .int .i64 vl, .int .i64 0] 51)).alloc (by simp; omega) (Obj.cells #[.int .i64 vs, .bool vb, .int .i64 vh, .int .i64 vl, .int .i64 0] 51)).alloc (by simp; omega) (Obj.cells (#[.int .i64 vs, .bool vb, .int .i64 vh, .int .i64 vl, .int .i64 0] ++ Builtin.zeroCells #[.int .i64 0, .bool false, .int .i64 0, .int .i64 0, .int .i64 0] (k - 1)) 51)
    exact ⟨h3.os, h3.tape, h3.output, h3.size, h3.block⟩

set_option maxHeartbeats 4000000 in
set_option maxRecDepth 100000 in
theorem value28_any (B0 b : Nat) (S : StoreD) (t : Nat) (n : NodeD) (w : World) (h : IsStore w B0 b S) (hn : S.nodes[t]? = some n) (ha : n.args = []) (ho : n.op = 1 ∨ n.op = 2 ∨ n.op = 3) :
    Calls Tryz.prog 28 #[.pointer (some ⟨b, 0, none⟩), .agg #[.slice none 0 0, .slice none 0 0], .int .i64 t] w fun e w' => e = .returned (.tuple #[nodeVal n, .int .i64 0]) ∧ Below w.heap.size w w' := by
  obtain ⟨W, hW⟩ : ∃ W, W = ((w.alloc (.cells #[.slice none 0 0, .slice none 0 0] 29)).alloc (.cells #[.int .i64 0, .bool false, .int .i64 0, .int .i64 0, .int .i64 0] 51)).alloc (.cells #[.int .i64 t] 75) := ⟨_, rfl⟩
  have hbel : Below w.heap.size w W := by rw [hW]; exact (((Below.refl _ w).alloc (Nat.le_refl _) _).alloc (by simp) _).alloc (by simp; omega) _
  have hsz : W.heap.size = w.heap.size + 3 := by rw [hW]; simp
  have hT : W.heap[w.heap.size + 1]? = some (.cells #[.int .i64 0, .bool false, .int .i64 0, .int .i64 0, .int .i64 0] 51 (0, 0)) := by
    rw [hW, Lib.alloc_old _ _ _ (by simp)]
    have := heap_alloc_new (w.alloc (.cells #[.slice none 0 0, .slice none 0 0] 29)) (.cells #[.int .i64 0, .bool false, .int .i64 0, .int .i64 0, .int .i64 0] 51)
    simpa using this
  have hcg : W.cell? ⟨w.heap.size + 2, 0, none⟩ = some (.int .i64 t) := by
    have h := heap_alloc_new ((w.alloc (.cells #[.slice none 0 0, .slice none 0 0] 29)).alloc (.cells #[.int .i64 0, .bool false, .int .i64 0, .int .i64 0, .int .i64 0] 51)) (.cells #[.int .i64 t] 75)
    rw [← hW] at h
    rw [Lib.cell_of_heap (by simpa using h)]; rfl
  have hvs := values_one B0 b (w.heap.size + 2) 1 S t n W (h.same hbel) hn ha ho (by omega) hcg
  rw [hsz, hW] at hvs
  rw [hW] at hT hbel
  obtain ⟨vs, vb, vh, vl, hv⟩ := nodeVal_cells n
  rw [hv] at hvs ⊢
  have Hvs := Lib.hid hvs
  have HT := Lib.hid hT
  have Hbel := Lib.hid hbel
  clear hn h hvs hbel hv ha ho hT hcg hsz hW
  go_enter Tryz.func28, Tryz.ntmps28
  go_wp2_with (go_at_call 82; refine Hvs.out.mono ?_; rintro e w2 ⟨g', c', rfl, hc, hb2⟩; have z2 := (hb2.block (w.heap.size + 1) (by omega)).trans HT.out; obtain ⟨⟨d0, d1, d2, d3, d4⟩, f0, f1, f2, f3, f4⟩ := cells5 z2; have q0 := hc 0 _ rfl; have q1 := hc 1 _ rfl; have q2 := hc 2 _ rfl; have q3 := hc 3 _ rfl; have q4 := hc 4 _ rfl; have Z2 := Lib.hid z2; have Hb2 := Lib.hid (Hbel.out.trans (hb2.mono (by omega))); clear z2 hb2 hc)
  obtain ⟨W5, hW5, k1, k2, k3, k4⟩ := set5 (.int .i64 vs) (.bool vb) (.int .i64 vh) (.int .i64 vl) (.int .i64 0) Z2.out
  rw [← hW5]
  obtain ⟨⟨r0, r1, r2, r3, r4⟩, _⟩ := cells5 k1
  exact bodyPost_ret (v := .tuple #[.agg #[.int .i64 vs, .bool vb, .int .i64 vh, .int .i64 vl, .int .i64 0], .int .i64 0]) (by simp [results, Tryz.results28, go_sem, r0, r1, r2, r3, r4]) rfl ⟨rfl, Hb2.out.trans (k4 _ (by omega))⟩
end Go.Proofs.YtjdgfdpbiidldaaGreatDoor

namespace Go.Proofs.YtjdgfdpbiidldaaGreatDoor
open Go.RowKit

theorem cells2 {w : World} {b : Nat} {e : TypeId} {x0 x1 : Value} (h : w.heap[b]? = some (.cells #[x0, x1] e (0, 0))) :
    (w.cell? ⟨b, 0, none⟩ = some x0 ∧ w.cell? ⟨b, 1, none⟩ = some x1) ∧ w.frozen? ⟨b, 0, none⟩ = false ∧ w.frozen? ⟨b, 1, none⟩ = false := by
  refine ⟨⟨?_, ?_⟩, Lib.frozen_of_heap h 0, Lib.frozen_of_heap h 1⟩
  · rw [Lib.cell_of_heap h]; rfl
  · rw [Lib.cell_of_heap h]; rfl

theorem cells4 {w : World} {b : Nat} {e : TypeId} {x0 x1 x2 x3 : Value} (h : w.heap[b]? = some (.cells #[x0, x1, x2, x3] e (0, 0))) :
    (w.cell? ⟨b, 0, none⟩ = some x0 ∧ w.cell? ⟨b, 1, none⟩ = some x1 ∧ w.cell? ⟨b, 2, none⟩ = some x2 ∧ w.cell? ⟨b, 3, none⟩ = some x3) ∧ w.frozen? ⟨b, 0, none⟩ = false ∧ w.frozen? ⟨b, 1, none⟩ = false ∧ w.frozen? ⟨b, 2, none⟩ = false ∧ w.frozen? ⟨b, 3, none⟩ = false := by
  refine ⟨⟨?_, ?_, ?_, ?_⟩, Lib.frozen_of_heap h 0, Lib.frozen_of_heap h 1, Lib.frozen_of_heap h 2, Lib.frozen_of_heap h 3⟩ <;> (rw [Lib.cell_of_heap h]; rfl)

theorem set4 {w : World} {b : Nat} {e : TypeId} {x0 x1 x2 x3 : Value} (y0 y1 y2 y3 : Value) (h : w.heap[b]? = some (.cells #[x0, x1, x2, x3] e (0, 0))) :
    ∃ W, W = ((((w.setCell ⟨b, 0, none⟩ y0).setCell ⟨b, 1, none⟩ y1).setCell ⟨b, 2, none⟩ y2).setCell ⟨b, 3, none⟩ y3) ∧ W.heap[b]? = some (.cells #[y0, y1, y2, y3] e (0, 0)) ∧ (∀ k, k ≠ b → W.heap[k]? = w.heap[k]?) ∧ W.heap.size = w.heap.size ∧ (∀ B, B ≤ b → Below B w W) := by
  refine ⟨_, rfl, ?_, ?_, ?_, ?_⟩
  · exact heap_set_at (heap_set_at (heap_set_at (heap_set_at h 0 y0) 1 y1) 2 y2) 3 y3
  · intro k hk
    have hk' : k ≠ b := hk
    rw [Below.heap_setCell _ _ _ _ hk', Below.heap_setCell _ _ _ _ hk', Below.heap_setCell _ _ _ _ hk', Below.heap_setCell _ _ _ _ hk']
  · simp [World.setCell]
  · intro B hB
    exact ((((Below.refl B w).setCell (p := ⟨b, 0, none⟩) hB _).setCell (p := ⟨b, 1, none⟩) hB _).setCell (p := ⟨b, 2, none⟩) hB _).setCell (p := ⟨b, 3, none⟩) hB _

set_option maxHeartbeats 1000000 in
theorem bookThere_any (bk tb sb : Nat) (w : World) (h0 : w.cell? ⟨bk, 0, none⟩ = some (.pointer (some ⟨tb, 0, none⟩))) (h1 : w.cell? ⟨bk, 1, none⟩ = some (.pointer (some ⟨sb, 0, none⟩))) :
    Calls Tryz.prog 80 #[.pointer (some ⟨bk, 0, none⟩)] w fun e w' => e = .returned (.bool true) ∧ w = w' := by
  go_enter Tryz.func80, Tryz.ntmps80
  go_wp2
  go_ret
  exact ⟨rfl, rfl⟩

set_option maxHeartbeats 1000000 in
theorem find_none (s : ByteArray) (w : World) : Calls Tryz.prog 269 #[.pointer none, .string s] w fun e w' => e = .returned (.tuple #[.int .i64 0, .bool false]) ∧ w = w' := by
  go_enter Tryz.func269, Tryz.ntmps269
  go_wp2_with fail
  refine wp_loop_rounds 1 ?_
  rw [rounds_succ]
  go_wp2_with fail
  go_ret2
  exact ⟨rfl, rfl⟩

set_option maxHeartbeats 1000000 in
theorem isSymbol_any (tl : Bool) (tk : Int) (tx : ByteArray) (tp : Int) (ao : Option Addr) (kn kc : Nat) (b : Bool) (hb : (!tl && (tk == 3)) = b) (w : World) : Calls Tryz.prog 213 #[.agg #[.bool tl, .int .u8 tk, .string tx, .int .i64 tp, .slice ao kn kc]] w fun e w' => e = .returned (.bool b) ∧ Below w.heap.size w w' := by
  have HB := Lib.hid hb
  clear hb
  cases tl with
  | true =>
    go_enter Tryz.func213, Tryz.ntmps213
    go_wp2
    go_ret
    refine ⟨by rw [← HB.out]; rfl, ?_⟩
    repeat (first | exact Below.refl _ _ | refine Below.alloc ?_ (by simp) _ | refine Below.setCell ?_ (by simp) _)
  | false =>
    go_enter Tryz.func213, Tryz.ntmps213
    go_wp2
    go_ret
    refine ⟨by rw [← HB.out]; rfl, ?_⟩
    repeat (first | exact Below.refl _ _ | refine Below.alloc ?_ (by simp) _ | refine Below.setCell ?_ (by simp) _)
end Go.Proofs.YtjdgfdpbiidldaaGreatDoor

namespace Go.Proofs.YtjdgfdpbiidldaaGreatDoor
open Go.RowKit

/-- a reader lies in its block -/
def IsReader (w : World) (rd bk : Nat) (d : Int) : Prop := w.heap[rd]? = some (.cells #[.pointer (some ⟨bk, 0, none⟩), .int .i64 d] 181 (0, 0))

set_option maxHeartbeats 4000000 in
set_option maxRecDepth 100000 in
theorem look_num (rd bk n : Nat) (d tp : Int) (ao : Option Addr) (kn kc : Nat) (ev : Value) (w : World) (h : IsReader w rd bk d) (hd : 0 ≤ d ∧ d ≤ 1000) (hn : n < 10 ^ 40) (hv : w.cell? ⟨9, 0, none⟩ = some ev) (h9 : 9 < rd) (hev : ∃ te pe, ev = .iface te pe) :
    Calls Tryz.prog 158 #[.pointer (some ⟨rd, 0, none⟩), .agg #[.bool false, .int .u8 4, .string ⟨(Lib.decDigits n).toArray⟩, .int .i64 tp, .slice ao kn kc], .pointer none] w fun e w' => e = .returned (.tuple #[.agg #[.int .i64 0, .bool true, .map none, .int .i64 (readVal n).1], .int .i64 (readVal n).2]) ∧ IsReader w' rd bk (d + 1) ∧ Upd (fun k => k = rd) w w' := by
  obtain ⟨S, hS⟩ : ∃ S : ByteArray, S = ⟨(Lib.decDigits n).toArray⟩ := ⟨_, rfl⟩
  have hrlt : rd < w.heap.size := (Array.getElem?_eq_some_iff.1 h).1
  obtain ⟨W, hW⟩ : ∃ W : World, W = ((w.setCell ⟨rd, 1, none⟩ (.int .i64 (d + 1))).alloc (.cells #[.bool false, .int .u8 4, .string S, .int .i64 tp, .slice ao kn kc] 36)).alloc (.cells #[.int .i64 0, .bool false, .map none, .int .i64 0] 283) := ⟨_, rfl⟩
  have hbel0 : Below w.heap.size w ((w.alloc (.cells #[.bool false, .int .u8 4, .string S, .int .i64 tp, .slice ao kn kc] 36)).alloc (.cells #[.int .i64 0, .bool false, .map none, .int .i64 0] 283)) := ((Below.refl _ w).alloc (Nat.le_refl _) _).alloc (by simp) _
  have hRd0 := (hbel0.block rd hrlt).trans h
  have hsz1 : (w.setCell ⟨rd, 1, none⟩ (.int .i64 (d + 1))).heap.size = w.heap.size := by simp [World.setCell]
  have hbel : Below rd w W := by rw [hW]; exact (((Below.refl rd w).setCell (p := ⟨rd, 1, none⟩) (Nat.le_refl _) _).alloc (by omega) _).alloc (by simp; omega) _
  have hRd : IsReader W rd bk (d + 1) := by
    rw [hW]
    show (((w.setCell _ _).alloc _).alloc _).heap[rd]? = _
    rw [Lib.alloc_old _ _ _ (by simp; omega), Lib.alloc_old _ _ _ (by omega)]
    exact heap_set_at h 1 _
  have hV : W.heap[w.heap.size + 1]? = some (.cells #[.int .i64 0, .bool false, .map none, .int .i64 0] 283 (0, 0)) := by
    have := heap_alloc_new ((w.setCell ⟨rd, 1, none⟩ (.int .i64 (d + 1))).alloc (.cells #[.bool false, .int .u8 4, .string S, .int .i64 tp, .slice ao kn kc] 36)) (.cells #[.int .i64 0, .bool false, .map none, .int .i64 0] 283)
    rw [← hW, World.size_alloc, hsz1] at this
    exact this
  have hszW : W.heap.size = w.heap.size + 2 := by rw [hW]; simp [World.setCell]
  have hread := dread_any n ev W hn ((hbel.cell (p := ⟨9, 0, none⟩) h9).trans hv) (by omega) hev
  rw [← hS] at hread ⊢
  obtain ⟨rv, re, hr⟩ : ∃ rv re, readVal n = (rv, re) := ⟨_, _, rfl⟩
  rw [hr] at hread ⊢
  obtain ⟨⟨c0, c1⟩, f0, f1⟩ := cells2 hRd0
  obtain ⟨⟨c2, c3⟩, _⟩ := cells2 hRd
  rw [hW] at c2 c3
  have hd0 : -1000 ≤ d := by omega
  have hd1 : d ≤ 1000 := hd.2
  rw [hW] at hread
  have hupd : Upd (fun k => k = rd) w (((w.setCell ⟨rd, 1, none⟩ (.int .i64 (d + 1))).alloc (.cells #[.bool false, .int .u8 4, .string S, .int .i64 tp, .slice ao kn kc] 36)).alloc (.cells #[.int .i64 0, .bool false, .map none, .int .i64 0] 283)) := ((((Upd.refl (fun k => k = rd) w).setCell (p := ⟨rd, 1, none⟩) (fun _ => rfl) _).alloc _).alloc _)
  have Hupd := Lib.hid hupd
  have Hread := Lib.hid hread
  have HW := Lib.hid hW
  have HRd := Lib.hid hRd
  have HV := Lib.hid hV
  have HszW := Lib.hid hszW
  clear hupd hread hW hRd hV hbel hszW hRd0 hbel0 h hr hS hsz1 hn hv hev h9 hd
  go_enter Tryz.func158, Tryz.ntmps158
  go_wp2_with fail
  refine Hread.out.mono ?_
  rintro e w2 ⟨rfl, hb2⟩
  have hsW : w.heap.size + 2 ≤ (((w.setCell ⟨rd, 1, none⟩ (.int .i64 (d + 1))).alloc (.cells #[.bool false, .int .u8 4, .string S, .int .i64 tp, .slice ao kn kc] 36)).alloc (.cells #[.int .i64 0, .bool false, .map none, .int .i64 0] 283)).heap.size := by rw [← HW.out, HszW.out]; exact Nat.le_refl _
  have hV' := HV.out
  rw [HW.out] at hV'
  have z2 := (hb2.block (w.heap.size + 1) (by omega)).trans hV'
  have hRd' := HRd.out
  rw [HW.out] at hRd'
  have hRd2 : IsReader w2 rd bk (d + 1) := (hb2.block rd (by omega)).trans hRd'
  have hB2 : Upd (fun k => k = rd) w w2 := (Hupd.out.trans (Upd.of_all hb2 _))
  obtain ⟨⟨e0, e1, e2, e3⟩, g0, g1, g2, g3⟩ := cells4 z2
  have Z2 := Lib.hid z2
  have HRd2 := Lib.hid hRd2
  have HB2 := Lib.hid hB2
  clear hb2 hsW hV' z2 hRd' hRd2 hB2 c0 c1 c2 c3 f0 f1
  go_wp2_with fail
  obtain ⟨W5, hW5, k1, k2, k3, k4⟩ := set4 (.int .i64 0) (.bool true) (.map none) (.int .i64 rv) Z2.out
  rw [← hW5]
  obtain ⟨⟨q0, q1, q2, q3⟩, _⟩ := cells4 k1
  exact bodyPost_ret (v := .tuple #[.agg #[.int .i64 0, .bool true, .map none, .int .i64 rv], .int .i64 re]) (by simp [results, Tryz.results158, go_sem, q0, q1, q2, q3]) rfl ⟨rfl, (k2 rd (by omega)).trans HRd2.out, by rw [hW5]; exact (((HB2.out.setCell (p := ⟨w.heap.size + 1, 0, none⟩) (fun h => absurd h (by simp)) _).setCell (p := ⟨w.heap.size + 1, 1, none⟩) (fun h => absurd h (by simp)) _).setCell (p := ⟨w.heap.size + 1, 2, none⟩) (fun h => absurd h (by simp)) _).setCell (p := ⟨w.heap.size + 1, 3, none⟩) (fun h => absurd h (by simp)) _⟩
end Go.Proofs.YtjdgfdpbiidldaaGreatDoor

namespace Go.Proofs.YtjdgfdpbiidldaaGreatDoor
open Go.RowKit

set_option maxHeartbeats 4000000 in
set_option maxRecDepth 100000 in
theorem name_true (rd : Nat) (w : World) :
    Calls Tryz.prog 214 #[.pointer (some ⟨rd, 0, none⟩), .string ⟨#[116, 114, 117, 101]⟩, .pointer none] w fun e w' => e = .returned (.tuple #[.agg #[.int .i64 0, .bool false, .map none, .int .i64 0], .int .i64 0]) ∧ Below w.heap.size w w' := by
  go_enter Tryz.func214, Tryz.ntmps214
  go_wp2_with (go_at_call 269; refine (find_none _ _).mono ?_; rintro e w' ⟨rfl, rfl⟩)
  refine bodyPost_ret (v := .tuple #[.agg #[.int .i64 0, .bool false, .map none, .int .i64 0], .int .i64 0]) (by simp [results, Tryz.results214, go_sem]) rfl ⟨rfl, ?_⟩
  repeat (first | exact Below.refl _ _ | refine Below.alloc ?_ (by simp) _ | refine Below.setCell ?_ (by simp) _)

set_option maxHeartbeats 4000000 in
set_option maxRecDepth 100000 in
theorem look_true (rd bk : Nat) (d tp : Int) (ao : Option Addr) (kn kc : Nat) (w : World) (h : IsReader w rd bk d) (hd : 0 ≤ d ∧ d ≤ 1000) :
    Calls Tryz.prog 158 #[.pointer (some ⟨rd, 0, none⟩), .agg #[.bool false, .int .u8 3, .string ⟨#[116, 114, 117, 101]⟩, .int .i64 tp, .slice ao kn kc], .pointer none] w fun e w' => e = .returned (.tuple #[.agg #[.int .i64 0, .bool false, .map none, .int .i64 0], .int .i64 0]) ∧ IsReader w' rd bk (d + 1) ∧ Below rd w w' := by
  have hrlt : rd < w.heap.size := (Array.getElem?_eq_some_iff.1 h).1
  obtain ⟨W, hW⟩ : ∃ W : World, W = ((w.setCell ⟨rd, 1, none⟩ (.int .i64 (d + 1))).alloc (.cells #[.bool false, .int .u8 3, .string ⟨#[116, 114, 117, 101]⟩, .int .i64 tp, .slice ao kn kc] 36)).alloc (.cells #[.int .i64 0, .bool false, .map none, .int .i64 0] 283) := ⟨_, rfl⟩
  have hbel0 : Below w.heap.size w ((w.alloc (.cells #[.bool false, .int .u8 3, .string ⟨#[116, 114, 117, 101]⟩, .int .i64 tp, .slice ao kn kc] 36)).alloc (.cells #[.int .i64 0, .bool false, .map none, .int .i64 0] 283)) := ((Below.refl _ w).alloc (Nat.le_refl _) _).alloc (by simp) _
  have hRd0 := (hbel0.block rd hrlt).trans h
  have hsz1 : (w.setCell ⟨rd, 1, none⟩ (.int .i64 (d + 1))).heap.size = w.heap.size := by simp [World.setCell]
  have hbel : Below rd w W := by rw [hW]; exact (((Below.refl rd w).setCell (p := ⟨rd, 1, none⟩) (Nat.le_refl _) _).alloc (by omega) _).alloc (by simp; omega) _
  have hRd : IsReader W rd bk (d + 1) := by
    rw [hW]
    show (((w.setCell _ _).alloc _).alloc _).heap[rd]? = _
    rw [Lib.alloc_old _ _ _ (by simp; omega), Lib.alloc_old _ _ _ (by omega)]
    exact heap_set_at h 1 _
  have hV : W.heap[w.heap.size + 1]? = some (.cells #[.int .i64 0, .bool false, .map none, .int .i64 0] 283 (0, 0)) := by
    have := heap_alloc_new ((w.setCell ⟨rd, 1, none⟩ (.int .i64 (d + 1))).alloc (.cells #[.bool false, .int .u8 3, .string ⟨#[116, 114, 117, 101]⟩, .int .i64 tp, .slice ao kn kc] 36)) (.cells #[.int .i64 0, .bool false, .map none, .int .i64 0] 283)
    rw [← hW, World.size_alloc, hsz1] at this
    exact this
  have hTr : W.heap[w.heap.size]? = some (.cells #[.bool false, .int .u8 3, .string ⟨#[116, 114, 117, 101]⟩, .int .i64 tp, .slice ao kn kc] 36 (0, 0)) := by
    have := heap_alloc_new (w.setCell ⟨rd, 1, none⟩ (.int .i64 (d + 1))) (.cells #[.bool false, .int .u8 3, .string ⟨#[116, 114, 117, 101]⟩, .int .i64 tp, .slice ao kn kc] 36)
    rw [hsz1] at this
    rw [hW, Lib.alloc_old _ _ _ (by simp [World.setCell])]
    exact this
  have hszW : W.heap.size = w.heap.size + 2 := by rw [hW]; simp [World.setCell]
  obtain ⟨⟨c0, c1⟩, f0, f1⟩ := cells2 hRd0
  obtain ⟨⟨c2, c3⟩, _⟩ := cells2 hRd
  rw [hW] at c2 c3
  have hd0 : -1000 ≤ d := by omega
  have hd1 : d ≤ 1000 := hd.2
  have hname := fun w => name_true rd w
  have hsym := fun w => isSymbol_any false 3 ⟨#[116, 114, 117, 101]⟩ tp ao kn kc true rfl w
  have HW := Lib.hid hW
  have HRd := Lib.hid hRd
  have HV := Lib.hid hV
  have HTr := Lib.hid hTr
  have Hbel := Lib.hid hbel
  have HszW := Lib.hid hszW
  have Hname := Lib.hid hname
  have Hsym := Lib.hid hsym
  clear hW hRd hV hTr hbel hszW hRd0 hbel0 h hd hsz1 hname hsym
  go_enter Tryz.func158, Tryz.ntmps158
  go_wp2_with fail
  refine (Hsym.out _).mono ?_
  rintro e w2 ⟨rfl, hb2⟩
  have hsW : w.heap.size + 2 ≤ (((w.setCell ⟨rd, 1, none⟩ (.int .i64 (d + 1))).alloc (.cells #[.bool false, .int .u8 3, .string ⟨#[116, 114, 117, 101]⟩, .int .i64 tp, .slice ao kn kc] 36)).alloc (.cells #[.int .i64 0, .bool false, .map none, .int .i64 0] 283)).heap.size := by rw [← HW.out, HszW.out]; exact Nat.le_refl _
  have hV' := HV.out
  rw [HW.out] at hV'
  have hTr' := HTr.out
  rw [HW.out] at hTr'
  have z2 := (hb2.block (w.heap.size + 1) (by omega)).trans hV'
  have t2 := (hb2.block w.heap.size (by omega)).trans hTr'
  have hRd' := HRd.out
  have hbel' := Hbel.out
  rw [HW.out] at hRd' hbel'
  have hRd2 : IsReader w2 rd bk (d + 1) := (hb2.block rd (by omega)).trans hRd'
  have hB2 : Below rd w w2 := hbel'.trans (hb2.mono (by omega))
  obtain ⟨⟨e0, e1, e2, e3⟩, g0, g1, g2, g3⟩ := cells4 z2
  obtain ⟨⟨u0, u1, u2, u3, u4⟩, _⟩ := cells5 t2
  have hs2 : w.heap.size + 2 ≤ w2.heap.size := Nat.le_trans hsW hb2.size
  have Z2 := Lib.hid z2
  have HRd2 := Lib.hid hRd2
  have HB2 := Lib.hid hB2
  clear hb2 hsW hV' z2 hRd' hbel' hRd2 hB2 c0 c1 c2 c3 f0 f1 t2 hTr'
  go_wp2_with fail
  refine (Hname.out _).mono ?_
  rintro e w3 ⟨rfl, hb3⟩
  have z3 := (hb3.block (w.heap.size + 1) (by omega)).trans Z2.out
  have hRd3 : IsReader w3 rd bk (d + 1) := (hb3.block rd (by omega)).trans HRd2.out
  have hB3 : Below rd w w3 := HB2.out.trans (hb3.mono (by omega))
  obtain ⟨⟨p0, p1, p2, p3⟩, o0, o1, o2, o3⟩ := cells4 z3
  have Z3 := Lib.hid z3
  have HRd3 := Lib.hid hRd3
  have HB3 := Lib.hid hB3
  clear hb3 z3 hRd3 hB3 e0 e1 e2 e3 g0 g1 g2 g3 u0 u1 u2 u3 u4
  go_wp2_with fail
  obtain ⟨W5, hW5, k1, k2, k3, k4⟩ := set4 (.int .i64 0) (.bool false) (.map none) (.int .i64 0) Z3.out
  rw [← hW5]
  obtain ⟨⟨q0, q1, q2, q3⟩, _⟩ := cells4 k1
  exact bodyPost_ret (v := .tuple #[.agg #[.int .i64 0, .bool false, .map none, .int .i64 0], .int .i64 0]) (by simp [results, Tryz.results158, go_sem, q0, q1, q2, q3]) rfl ⟨rfl, (k2 rd (by omega)).trans HRd3.out, HB3.out.trans (k4 rd (by omega))⟩

set_option maxHeartbeats 4000000 in
set_option maxRecDepth 100000 in
theorem name_false (rd : Nat) (w : World) :
    Calls Tryz.prog 214 #[.pointer (some ⟨rd, 0, none⟩), .string ⟨#[102, 97, 108, 115, 101]⟩, .pointer none] w fun e w' => e = .returned (.tuple #[.agg #[.int .i64 1, .bool false, .map none, .int .i64 0], .int .i64 0]) ∧ Below w.heap.size w w' := by
  go_enter Tryz.func214, Tryz.ntmps214
  go_wp2_with (go_at_call 269; refine (find_none _ _).mono ?_; rintro e w' ⟨rfl, rfl⟩)
  refine bodyPost_ret (v := .tuple #[.agg #[.int .i64 1, .bool false, .map none, .int .i64 0], .int .i64 0]) (by simp [results, Tryz.results214, go_sem]) rfl ⟨rfl, ?_⟩
  repeat (first | exact Below.refl _ _ | refine Below.alloc ?_ (by simp) _ | refine Below.setCell ?_ (by simp) _)

set_option maxHeartbeats 4000000 in
set_option maxRecDepth 100000 in
theorem look_false (rd bk : Nat) (d tp : Int) (ao : Option Addr) (kn kc : Nat) (w : World) (h : IsReader w rd bk d) (hd : 0 ≤ d ∧ d ≤ 1000) :
    Calls Tryz.prog 158 #[.pointer (some ⟨rd, 0, none⟩), .agg #[.bool false, .int .u8 3, .string ⟨#[102, 97, 108, 115, 101]⟩, .int .i64 tp, .slice ao kn kc], .pointer none] w fun e w' => e = .returned (.tuple #[.agg #[.int .i64 1, .bool false, .map none, .int .i64 0], .int .i64 0]) ∧ IsReader w' rd bk (d + 1) ∧ Below rd w w' := by
  have hrlt : rd < w.heap.size := (Array.getElem?_eq_some_iff.1 h).1
  obtain ⟨W, hW⟩ : ∃ W : World, W = ((w.setCell ⟨rd, 1, none⟩ (.int .i64 (d + 1))).alloc (.cells #[.bool false, .int .u8 3, .string ⟨#[102, 97, 108, 115, 101]⟩, .int .i64 tp, .slice ao kn kc] 36)).alloc (.cells #[.int .i64 0, .bool false, .map none, .int .i64 0] 283) := ⟨_, rfl⟩
  have hbel0 : Below w.heap.size w ((w.alloc (.cells #[.bool false, .int .u8 3, .string ⟨#[102, 97, 108, 115, 101]⟩, .int .i64 tp, .slice ao kn kc] 36)).alloc (.cells #[.int .i64 0, .bool false, .map none, .int .i64 0] 283)) := ((Below.refl _ w).alloc (Nat.le_refl _) _).alloc (by simp) _
  have hRd0 := (hbel0.block rd hrlt).trans h
  have hsz1 : (w.setCell ⟨rd, 1, none⟩ (.int .i64 (d + 1))).heap.size = w.heap.size := by simp [World.setCell]
  have hbel : Below rd w W := by rw [hW]; exact (((Below.refl rd w).setCell (p := ⟨rd, 1, none⟩) (Nat.le_refl _) _).alloc (by omega) _).alloc (by simp; omega) _
  have hRd : IsReader W rd bk (d + 1) := by
    rw [hW]
    show (((w.setCell _ _).alloc _).alloc _).heap[rd]? = _
    rw [Lib.alloc_old _ _ _ (by simp; omega), Lib.alloc_old _ _ _ (by omega)]
    exact heap_set_at h 1 _
  have hV : W.heap[w.heap.size + 1]? = some (.cells #[.int .i64 0, .bool false, .map none, .int .i64 0] 283 (0, 0)) := by
    have := heap_alloc_new ((w.setCell ⟨rd, 1, none⟩ (.int .i64 (d + 1))).alloc (.cells #[.bool false, .int .u8 3, .string ⟨#[102, 97, 108, 115, 101]⟩, .int .i64 tp, .slice ao kn kc] 36)) (.cells #[.int .i64 0, .bool false, .map none, .int .i64 0] 283)
    rw [← hW, World.size_alloc, hsz1] at this
    exact this
  have hTr : W.heap[w.heap.size]? = some (.cells #[.bool false, .int .u8 3, .string ⟨#[102, 97, 108, 115, 101]⟩, .int .i64 tp, .slice ao kn kc] 36 (0, 0)) := by
    have := heap_alloc_new (w.setCell ⟨rd, 1, none⟩ (.int .i64 (d + 1))) (.cells #[.bool false, .int .u8 3, .string ⟨#[102, 97, 108, 115, 101]⟩, .int .i64 tp, .slice ao kn kc] 36)
    rw [hsz1] at this
    rw [hW, Lib.alloc_old _ _ _ (by simp [World.setCell])]
    exact this
  have hszW : W.heap.size = w.heap.size + 2 := by rw [hW]; simp [World.setCell]
  obtain ⟨⟨c0, c1⟩, f0, f1⟩ := cells2 hRd0
  obtain ⟨⟨c2, c3⟩, _⟩ := cells2 hRd
  rw [hW] at c2 c3
  have hd0 : -1000 ≤ d := by omega
  have hd1 : d ≤ 1000 := hd.2
  have hname := fun w => name_false rd w
  have hsym := fun w => isSymbol_any false 3 ⟨#[102, 97, 108, 115, 101]⟩ tp ao kn kc true rfl w
  have HW := Lib.hid hW
  have HRd := Lib.hid hRd
  have HV := Lib.hid hV
  have HTr := Lib.hid hTr
  have Hbel := Lib.hid hbel
  have HszW := Lib.hid hszW
  have Hname := Lib.hid hname
  have Hsym := Lib.hid hsym
  clear hW hRd hV hTr hbel hszW hRd0 hbel0 h hd hsz1 hname hsym
  go_enter Tryz.func158, Tryz.ntmps158
  go_wp2_with fail
  refine (Hsym.out _).mono ?_
  rintro e w2 ⟨rfl, hb2⟩
  have hsW : w.heap.size + 2 ≤ (((w.setCell ⟨rd, 1, none⟩ (.int .i64 (d + 1))).alloc (.cells #[.bool false, .int .u8 3, .string ⟨#[102, 97, 108, 115, 101]⟩, .int .i64 tp, .slice ao kn kc] 36)).alloc (.cells #[.int .i64 0, .bool false, .map none, .int .i64 0] 283)).heap.size := by rw [← HW.out, HszW.out]; exact Nat.le_refl _
  have hV' := HV.out
  rw [HW.out] at hV'
  have hTr' := HTr.out
  rw [HW.out] at hTr'
  have z2 := (hb2.block (w.heap.size + 1) (by omega)).trans hV'
  have t2 := (hb2.block w.heap.size (by omega)).trans hTr'
  have hRd' := HRd.out
  have hbel' := Hbel.out
  rw [HW.out] at hRd' hbel'
  have hRd2 : IsReader w2 rd bk (d + 1) := (hb2.block rd (by omega)).trans hRd'
  have hB2 : Below rd w w2 := hbel'.trans (hb2.mono (by omega))
  obtain ⟨⟨e0, e1, e2, e3⟩, g0, g1, g2, g3⟩ := cells4 z2
  obtain ⟨⟨u0, u1, u2, u3, u4⟩, _⟩ := cells5 t2
  have hs2 : w.heap.size + 2 ≤ w2.heap.size := Nat.le_trans hsW hb2.size
  have Z2 := Lib.hid z2
  have HRd2 := Lib.hid hRd2
  have HB2 := Lib.hid hB2
  clear hb2 hsW hV' z2 hRd' hbel' hRd2 hB2 c0 c1 c2 c3 f0 f1 t2 hTr'
  go_wp2_with fail
  refine (Hname.out _).mono ?_
  rintro e w3 ⟨rfl, hb3⟩
  have z3 := (hb3.block (w.heap.size + 1) (by omega)).trans Z2.out
  have hRd3 : IsReader w3 rd bk (d + 1) := (hb3.block rd (by omega)).trans HRd2.out
  have hB3 : Below rd w w3 := HB2.out.trans (hb3.mono (by omega))
  obtain ⟨⟨p0, p1, p2, p3⟩, o0, o1, o2, o3⟩ := cells4 z3
  have Z3 := Lib.hid z3
  have HRd3 := Lib.hid hRd3
  have HB3 := Lib.hid hB3
  clear hb3 z3 hRd3 hB3 e0 e1 e2 e3 g0 g1 g2 g3 u0 u1 u2 u3 u4
  go_wp2_with fail
  obtain ⟨W5, hW5, k1, k2, k3, k4⟩ := set4 (.int .i64 1) (.bool false) (.map none) (.int .i64 0) Z3.out
  rw [← hW5]
  obtain ⟨⟨q0, q1, q2, q3⟩, _⟩ := cells4 k1
  exact bodyPost_ret (v := .tuple #[.agg #[.int .i64 1, .bool false, .map none, .int .i64 0], .int .i64 0]) (by simp [results, Tryz.results158, go_sem, q0, q1, q2, q3]) rfl ⟨rfl, (k2 rd (by omega)).trans HRd3.out, HB3.out.trans (k4 rd (by omega))⟩
end Go.Proofs.YtjdgfdpbiidldaaGreatDoor

namespace Go.Proofs.YtjdgfdpbiidldaaGreatDoor
open Go.RowKit

/-- no bases: no map, or an empty one -/
def NoBases (w : World) (v : Value) : Prop := v = .map none ∨ ∃ mb, v = .map (some mb) ∧ JM.IsM (Value.int .i64) w mb []
theorem NoBases.same {w w' : World} {v : Value} (h : NoBases w v) (hb : Below w.heap.size w w') : NoBases w' v := by
  rcases h with rfl | ⟨mb, rfl, hm⟩
  · exact .inl rfl
  · exact .inr ⟨mb, rfl, hm.same (hb.block mb hm.lt)⟩
theorem NoBases.one {w : World} {v : Value} (h : NoBases w v) : ∃ q, v = .map q := by
  rcases h with rfl | ⟨mb, rfl, _⟩
  · exact ⟨_, rfl⟩
  · exact ⟨_, rfl⟩

theorem range_gone (w : World) (v : Value) (h : NoBases w v) : ∃ w', (Instr.range 193 v).run Tryz.prog w = .ok (.pointer (some ⟨w.heap.size, 0, none⟩)) w' ∧ (∀ ty, (Instr.next (.pointer (some ⟨w.heap.size, 0, none⟩)) false ty).run Tryz.prog w' = .ok (.tuple #[.bool false]) w') ∧ Below w.heap.size w w' ∧ w'.heap.size = w.heap.size + 1 := by
  rcases h with rfl | ⟨mb, rfl, hm⟩
  · refine ⟨_, run_range_nilMap w 193 75 3 Tryz.underlying193, fun ty => run_next_nilMap w ty 0 0 #[], (Below.refl _ w).alloc (Nat.le_refl _) _, by simp⟩
  · obtain ⟨w', h1, h2, h3, h4⟩ := JM.run_rng (P := Tryz.prog) Tryz.underlying193 hm
    obtain ⟨g1, g2, g3, g4, g5⟩ := h3
    refine ⟨w', h1, fun ty => ?_, ⟨g1, g2, g3, g4, fun k hk => g5 k hk (by simp)⟩, h4⟩
    rcases JM.run_step (P := Tryz.prog) h2 ty with ⟨_, _, h5⟩ | ⟨i, k, u, w2, c2, h5, _⟩
    · exact h5
    · simp at h5

set_option maxHeartbeats 2000000 in
set_option maxRecDepth 100000 in
theorem vplain_any (t n : Int) (sm : Bool) (q : Option Nat) (w : World) (h : NoBases w (.map q)) :
    Calls Tryz.prog 217 #[.agg #[.int .i64 t, .bool sm, .map q, .int .i64 n]] w fun e w' => e = .returned (.bool sm) ∧ Below w.heap.size w w' := by
  have hb : Below w.heap.size w (w.alloc (.cells #[.int .i64 t, .bool sm, .map q, .int .i64 n] 283)) := (Below.refl _ w).alloc (Nat.le_refl _) _
  obtain ⟨w', h1, h2, h3, h4⟩ := range_gone _ _ (h.same hb)
  simp only [World.size_alloc] at h1 h2 h3
  have c1 : w'.cell? ⟨w.heap.size, 1, none⟩ = some (.bool sm) := by
    rw [h3.cell (p := ⟨w.heap.size, 1, none⟩) (by simp), Lib.cell_of_heap (heap_alloc_new w _)]; rfl
  have H3 := Lib.hid h3
  have Hb := Lib.hid hb
  clear h h3 hb h4
  go_enter Tryz.func217, Tryz.ntmps217
  go_wp2_with fail
  refine wp_loop_rounds 1 ?_
  rw [rounds_succ]
  go_wp2_with fail
  go_ret
  exact ⟨rfl, Hb.out.trans (H3.out.mono (by omega))⟩

set_option maxHeartbeats 2000000 in
set_option maxRecDepth 100000 in
theorem asTerm_bool (rd : Nat) (t : Int) (w : World) :
    Calls Tryz.prog 159 #[.pointer (some ⟨rd, 0, none⟩), .agg #[.int .i64 t, .bool false, .map none, .int .i64 0]] w fun e w' => e = .returned (.tuple #[.int .i64 t, .int .i64 0]) ∧ Below w.heap.size w w' := by
  go_enter Tryz.func159, Tryz.ntmps159
  go_wp2_with fail
  go_ret2
  refine ⟨rfl, ?_⟩
  repeat (first | exact Below.refl _ _ | refine Below.alloc ?_ (by simp) _ | refine Below.setCell ?_ (by simp) _)

set_option maxHeartbeats 2000000 in
set_option maxRecDepth 100000 in
theorem asTerm_num (rd bk sb B : Nat) (d t n : Int) (q : Option Nat) (w : World) (h : NoBases w (.map q)) (hr : IsReader w rd bk d) (hbk : w.cell? ⟨bk, 1, none⟩ = some (.pointer (some ⟨sb, 0, none⟩))) (hbl : bk < w.heap.size) (hs : IsStore w B sb storeNew) (hBw : B ≤ w.heap.size) (h1 : -4611686018427387903 ≤ n) (h2 : n ≤ 4611686018427387903) :
    Calls Tryz.prog 159 #[.pointer (some ⟨rd, 0, none⟩), .agg #[.int .i64 t, .bool true, .map q, .int .i64 n]] w fun e w' => e = .returned (.tuple #[.int .i64 (storeNum n).2, .int .i64 0]) ∧ IsStore w' B sb (storeNum n).1 ∧ Below B w w' ∧ Keeps [168, 172] true w w' := by
  have hb : Below w.heap.size w (w.alloc (.cells #[.int .i64 t, .bool true, .map q, .int .i64 n] 283)) := (Below.refl _ w).alloc (Nat.le_refl _) _
  have hpl := fun w hw => vplain_any t n true q w hw
  have hnum := fun w hw hbw => num_any B sb n w hw hbw h1 h2
  have Hpl := Lib.hid hpl
  have Hnum := Lib.hid hnum
  have hb1 := h.same hb
  have Hb1 := Lib.hid hb1
  have Hb := Lib.hid hb
  have Hr := Lib.hid hr
  have Hbk := Lib.hid hbk
  have Hs := Lib.hid hs
  have hcell : (w.alloc (.cells #[.int .i64 t, .bool true, .map q, .int .i64 n] 283)).heap[w.heap.size]? = some (.cells #[.int .i64 t, .bool true, .map q, .int .i64 n] 283 (0, 0)) := heap_alloc_new w _
  have Hcell := Lib.hid hcell
  clear h hb hpl hnum hb1 hr hbk hs hcell h1 h2
  go_enter Tryz.func159, Tryz.ntmps159
  go_wp2_with fail
  refine (Hpl.out _ Hb1.out).mono ?_
  rintro e w2 ⟨rfl, hb2⟩
  have hW2 := Hb.out.trans (hb2.mono (by simp))
  have hs2 : w.heap.size + 1 ≤ w2.heap.size := by have := hb2.size; simpa using this
  have hc2 := (hb2.block w.heap.size (by simp)).trans Hcell.out
  obtain ⟨⟨c0, c1, c2, c3⟩, f0, f1, f2, f3⟩ := cells4 hc2
  obtain ⟨w3, r1, r2, r3, r4⟩ := range_gone w2 (.map q) ((Hb1.out).same hb2)
  have hc3 := (r3.block w.heap.size (by omega)).trans hc2
  obtain ⟨⟨d0, d1, d2, d3⟩, _⟩ := cells4 hc3
  have hW3 := hW2.trans (r3.mono (by omega))
  obtain ⟨⟨e0, e1⟩, _⟩ := cells2 ((hW3.block rd (Array.getElem?_eq_some_iff.1 Hr.out).1).trans Hr.out)
  have g1 := (hW3.cell (p := ⟨bk, 1, none⟩) hbl).trans Hbk.out
  have hW3d : Below w.heap.size w w3.drew := ⟨hW3.os, hW3.tape, hW3.output, hW3.size, hW3.block⟩
  have hnn := Hnum.out w3.drew (Hs.out.same hW3d) (by have := hW3d.size; omega)
  have Hnn := Lib.hid hnn
  have HW3 := Lib.hid hW3
  have HW3d := Lib.hid hW3d
  clear hb2 hW2 hc2 hc3 hW3 hnn r3 hW3d
  go_wp2_with fail
  refine wp_loop_rounds 1 ?_
  rw [rounds_succ]
  go_wp2_with fail
  go_region_law (go_simp; go_at_call 219; refine Hnn.out.mono ?_; rintro e w4 ⟨rfl, hs4, hb4, hk4⟩)
  all_goals
    go_wp2_with fail
    go_ret2
    exact ⟨rfl, hs4, (HW3d.out.mono hBw).trans hb4, (keepsOf HW3d.out _ _).trans hk4⟩

/-- what look answers: a value, or an error; the reader stays, the rest below it too -/
def LookAns (rd bk : Nat) (t : Int) (sm : Bool) (n er : Int) (tv : Value) (w : World) : Prop :=
  Calls Tryz.prog 158 #[.pointer (some ⟨rd, 0, none⟩), tv, .pointer none] w fun e w' => ∃ q d, e = .returned (.tuple #[.agg #[.int .i64 t, .bool sm, .map q, .int .i64 n], .int .i64 er]) ∧ NoBases w' (.map q) ∧ IsReader w' rd bk d ∧ Below rd w w'

set_option maxHeartbeats 2000000 in
set_option maxRecDepth 100000 in
theorem term_err (rd bk : Nat) (er t n : Int) (sm : Bool) (tl : Bool) (tk : Int) (tx : ByteArray) (tp : Int) (ao : Option Addr) (kn kc : Nat) (w : World) (hrw : rd ≤ w.heap.size)
    (hl : LookAns rd bk t sm n er (.agg #[.bool tl, .int .u8 tk, .string tx, .int .i64 tp, .slice ao kn kc]) (w.alloc (.cells #[.bool tl, .int .u8 tk, .string tx, .int .i64 tp, .slice ao kn kc] 36))) (he : er ≠ 0) :
    Calls Tryz.prog 81 #[.pointer (some ⟨rd, 0, none⟩), .agg #[.bool tl, .int .u8 tk, .string tx, .int .i64 tp, .slice ao kn kc], .pointer none] w fun e w' => e = .returned (.tuple #[.int .i64 0, .int .i64 er]) ∧ Below rd w w' := by
  have he2 : (er != 0) = true := by simpa using he
  have hb : Below rd w (w.alloc (.cells #[.bool tl, .int .u8 tk, .string tx, .int .i64 tp, .slice ao kn kc] 36)) := (Below.refl _ w).alloc hrw _
  unfold LookAns at hl
  have Hl := Lib.hid hl
  have Hb := Lib.hid hb
  clear hl hb he
  go_enter Tryz.func81, Tryz.ntmps81
  go_wp2_with fail
  refine Hl.out.mono ?_
  rintro e w2 ⟨q, d, rfl, hnb, hrd, hb2⟩
  have hB2 := Hb.out.trans hb2
  have HB2 := Lib.hid hB2
  have hr2 : rd ≤ w2.heap.size := Nat.le_of_lt (Array.getElem?_eq_some_iff.1 hrd).1
  clear hnb hrd hb2 hB2
  go_wp2_with fail
  go_ret2
  exact ⟨rfl, HB2.out.alloc hr2 _⟩

set_option maxHeartbeats 2000000 in
set_option maxRecDepth 100000 in
theorem term_bool (rd bk : Nat) (t : Int) (tl : Bool) (tk : Int) (tx : ByteArray) (tp : Int) (ao : Option Addr) (kn kc : Nat) (w : World) (hrw : rd ≤ w.heap.size)
    (hl : Calls Tryz.prog 158 #[.pointer (some ⟨rd, 0, none⟩), .agg #[.bool tl, .int .u8 tk, .string tx, .int .i64 tp, .slice ao kn kc], .pointer none] (w.alloc (.cells #[.bool tl, .int .u8 tk, .string tx, .int .i64 tp, .slice ao kn kc] 36)) fun e w' => e = .returned (.tuple #[.agg #[.int .i64 t, .bool false, .map none, .int .i64 0], .int .i64 0]) ∧ IsReader w' rd bk 1 ∧ Below rd (w.alloc (.cells #[.bool tl, .int .u8 tk, .string tx, .int .i64 tp, .slice ao kn kc] 36)) w') :
    Calls Tryz.prog 81 #[.pointer (some ⟨rd, 0, none⟩), .agg #[.bool tl, .int .u8 tk, .string tx, .int .i64 tp, .slice ao kn kc], .pointer none] w fun e w' => e = .returned (.tuple #[.int .i64 t, .int .i64 0]) ∧ Below rd w w' := by
  have hb : Below rd w (w.alloc (.cells #[.bool tl, .int .u8 tk, .string tx, .int .i64 tp, .slice ao kn kc] 36)) := (Below.refl _ w).alloc hrw _
  have Hl := Lib.hid hl
  have Hb := Lib.hid hb
  clear hl hb
  go_enter Tryz.func81, Tryz.ntmps81
  go_wp2_with fail
  refine Hl.out.mono ?_
  rintro e w2 ⟨rfl, hrd, hb2⟩
  have hr2 : rd ≤ w2.heap.size := Nat.le_of_lt (Array.getElem?_eq_some_iff.1 hrd).1
  have hB2 := (Hb.out.trans hb2).alloc hr2 (.cells #[.int .i64 t, .bool false, .map none, .int .i64 0] 283)
  have HB2 := Lib.hid hB2
  clear hrd hb2 hB2
  go_wp2_with (go_at_call 159; refine (asTerm_bool rd t _).mono ?_; rintro e w3 ⟨rfl, hb3⟩)
  go_ret2
  exact ⟨rfl, HB2.out.trans (hb3.mono (by simp; omega))⟩

set_option maxHeartbeats 2000000 in
set_option maxRecDepth 100000 in
theorem term_num (rd bk sb B : Nat) (t n : Int) (tl : Bool) (tk : Int) (tx : ByteArray) (tp : Int) (ao : Option Addr) (kn kc : Nat) (w : World) (hrw : rd ≤ w.heap.size) (hbk : w.cell? ⟨bk, 1, none⟩ = some (.pointer (some ⟨sb, 0, none⟩))) (hbl : bk < rd) (w0 : World) (hs : IsStore w0 B sb storeNew) (hw0 : Below w0.heap.size w0 w) (hw0r : w0.heap.size ≤ rd) (hBr : B ≤ rd) (h1 : -4611686018427387903 ≤ n) (h2 : n ≤ 4611686018427387903)
    (hl : LookAns rd bk t true n 0 (.agg #[.bool tl, .int .u8 tk, .string tx, .int .i64 tp, .slice ao kn kc]) (w.alloc (.cells #[.bool tl, .int .u8 tk, .string tx, .int .i64 tp, .slice ao kn kc] 36))) :
    Calls Tryz.prog 81 #[.pointer (some ⟨rd, 0, none⟩), .agg #[.bool tl, .int .u8 tk, .string tx, .int .i64 tp, .slice ao kn kc], .pointer none] w fun e w' => e = .returned (.tuple #[.int .i64 (storeNum n).2, .int .i64 0]) ∧ IsStore w' B sb (storeNum n).1 ∧ Below B w w' ∧ ∃ wm, Below rd w wm ∧ Keeps [168, 172] true wm w' := by
  have hb : Below rd w (w.alloc (.cells #[.bool tl, .int .u8 tk, .string tx, .int .i64 tp, .slice ao kn kc] 36)) := (Below.refl _ w).alloc hrw _
  unfold LookAns at hl
  have hat := fun q d w hnb hr hbk hbl hst hBw => asTerm_num rd bk sb B d t n q w hnb hr hbk hbl hst hBw h1 h2
  have Hl := Lib.hid hl
  have Hb := Lib.hid hb
  have Hat := Lib.hid hat
  have Hbk := Lib.hid hbk
  have Hs := Lib.hid hs
  have Hw0 := Lib.hid hw0
  clear hl hb hat hbk hs hw0 h1 h2
  go_enter Tryz.func81, Tryz.ntmps81
  go_wp2_with fail
  refine Hl.out.mono ?_
  rintro e w2 ⟨q, d, rfl, hnb, hrd, hb2⟩
  have hr2 : rd < w2.heap.size := (Array.getElem?_eq_some_iff.1 hrd).1
  have hx : Below w2.heap.size w2 (w2.alloc (.cells #[.int .i64 t, .bool true, .map q, .int .i64 n] 283)) := (Below.refl _ _).alloc (Nat.le_refl _) _
  have hB2 : Below rd w (w2.alloc (.cells #[.int .i64 t, .bool true, .map q, .int .i64 n] 283)) := (Hb.out.trans hb2).alloc (by omega) (.cells #[.int .i64 t, .bool true, .map q, .int .i64 n] 283)
  have hA := Hat.out q d (w2.alloc (.cells #[.int .i64 t, .bool true, .map q, .int .i64 n] 283)) (hnb.same hx) ((hx.block rd hr2).trans hrd) ((hB2.cell (p := ⟨bk, 1, none⟩) hbl).trans Hbk.out) (by simp; omega) (Hs.out.same (Hw0.out.trans (hB2.mono hw0r))) (by simp; omega)
  have HA := Lib.hid hA
  have HB2 := Lib.hid hB2
  clear hnb hrd hb2 hB2 hx hA
  go_wp2_with (go_at_call 159; refine HA.out.mono ?_; rintro e w3 ⟨rfl, hs3, hb3, hk3⟩)
  go_ret2
  exact ⟨rfl, hs3, (HB2.out.mono hBr).trans hb3, _, HB2.out, hk3⟩
end Go.Proofs.YtjdgfdpbiidldaaGreatDoor

namespace Go.Proofs.YtjdgfdpbiidldaaGreatDoor
open Go.RowKit

theorem wpList_insert {b : Nat} {l : List (ByteArray × Value)} {w : World} {ops : Array Oper} {rest : List Oper} {o : Oper} {a : Act} {Q : Exit → Act → World → Prop} (hg : o.guard = none) (m k x : Operand) (ho : o.op = .insert 346 m k x) (hM : JM.IsM Value.string w b l) (key : ByteArray) (v : Value)
    (hm : a.eval m = .map (some b)) (hk : a.eval k = .string key) (hx : a.eval x = v) (hnew : key ∉ l.map (·.1))
    (hK : ∀ w', JM.IsM Value.string w' b (l ++ [(key, v)]) → w.grownBy w' (some b) → wpList Tryz.prog ops Q rest (a.put o.dst undef) w') : wpList Tryz.prog ops Q (o :: rest) a w := by
  refine wpList_plain hg fun K' hK' => ?_
  obtain ⟨w', hrun, h1, h2⟩ := JM.run_update (P := Tryz.prog) (JM.string_kind Tryz.underlying9) Tryz.underlying346 hM key v
  have hput : JM.put l key v = l ++ [(key, v)] := by
    unfold JM.put
    rw [findAt_new hnew]
  rw [hput] at h1
  unfold Oper.wp
  simp [execOp, ho, hm, hk, hx, hrun, Result.andThen]
  exact hK' _ _ (hK w' h1 h2)

set_option maxHeartbeats 1000000 in
theorem close1_any (f : Nat) (w : World) : Calls Tryz.prog 272 #[.func (.func f) #[] #[]] w fun e w' => ∃ g, e = .returned (.func (.func 273) #[] #[.pointer (some ⟨g, 0, none⟩)]) ∧ Below w.heap.size w w' := by
  go_enter Tryz.func272, Tryz.ntmps272
  go_wp2
  go_ret
  refine ⟨_, rfl, ?_⟩
  repeat (first | exact Below.refl _ _ | refine Below.alloc ?_ (by simp) _ | refine Below.setCell ?_ (by simp) _)

set_option maxHeartbeats 1000000 in
theorem close2_any (b : Bool) (n : Int) (w : World) : Calls Tryz.prog 275 #[.bool b, .int .i64 n] w fun e w' => ∃ g h, e = .returned (.func (.func 276) #[] #[.pointer (some ⟨g, 0, none⟩), .pointer (some ⟨h, 0, none⟩)]) ∧ Below w.heap.size w w' := by
  go_enter Tryz.func275, Tryz.ntmps275
  go_wp2
  go_ret
  refine ⟨_, _, rfl, ?_⟩
  repeat (first | exact Below.refl _ _ | refine Below.alloc ?_ (by simp) _ | refine Below.setCell ?_ (by simp) _)

def elabKeys : List ByteArray := [⟨#[110, 111, 116]⟩, ⟨#[97, 110, 100]⟩, ⟨#[111, 114]⟩, ⟨#[105, 116, 101]⟩, ⟨#[120, 111, 114]⟩, ⟨#[61, 62]⟩, ⟨#[100, 105, 115, 116, 105, 110, 99, 116]⟩, ⟨#[61]⟩, ⟨#[60, 61]⟩, ⟨#[60]⟩, ⟨#[62, 61]⟩, ⟨#[62]⟩, ⟨#[43]⟩, ⟨#[45]⟩, ⟨#[108, 101, 116]⟩]

set_option maxHeartbeats 8000000 in
set_option maxRecDepth 100000 in
theorem elabWords_any (w : World) : Calls Tryz.prog 215 #[] w fun e w' => ∃ l, e = .returned (.map (some w.heap.size)) ∧ JM.IsM Value.string w' w.heap.size l ∧ l.map (·.1) = elabKeys ∧ l[13]? = some (⟨#[45]⟩, .agg #[.int .i64 1, .bool true, .func (.func 290) #[] #[]]) ∧ Below w.heap.size w w' := by
  have hmm := @run_makeMap Tryz.prog
  have hM0 : JM.IsM Value.string (w.alloc (.map #[] 0)) w.heap.size [] := JM.isM_new w
  have hb0 : Below w.heap.size w (w.alloc (.map #[] 0)) := (Below.refl _ w).alloc (Nat.le_refl _) _
  go_enter Tryz.func215, Tryz.ntmps215
  go_wp2_with (first
    | (go_at_call 272; refine (close1_any 278 _).mono ?_; rintro e w1 ⟨g0, rfl, hq⟩; have hM1 := hM0.same (hq.block _ hM0.lt); have hb1 := hb0.trans (hq.mono hb0.size); clear hq hM0 hb0)
    | (refine wpList_insert (b := w.heap.size) rfl (.tmp 3) (.const (.string ⟨#[110, 111, 116]⟩)) (.tmp 6) rfl hM1 ⟨#[110, 111, 116]⟩ (.agg #[.int .i64 1, .bool false, (.func (.func 273) #[] #[.pointer (some ⟨g0, 0, none⟩)])]) rfl rfl rfl (by simp) ?_; intro w2 hM2 hg; have hb2 := hb1.grown hg hb1.size (fun k e => by cases e; exact Nat.le_refl _); clear hg hM1 hb1)
    | (go_at_call 272; refine (close1_any 280 _).mono ?_; rintro e w3 ⟨g1, rfl, hq⟩; have hM3 := hM2.same (hq.block _ hM2.lt); have hb3 := hb2.trans (hq.mono hb2.size); clear hq hM2 hb2)
    | (refine wpList_insert (b := w.heap.size) rfl (.tmp 3) (.const (.string ⟨#[97, 110, 100]⟩)) (.tmp 9) rfl hM3 ⟨#[97, 110, 100]⟩ (.agg #[.int .i64 2, .bool true, (.func (.func 273) #[] #[.pointer (some ⟨g1, 0, none⟩)])]) rfl rfl rfl (by simp) ?_; intro w4 hM4 hg; have hb4 := hb3.grown hg hb3.size (fun k e => by cases e; exact Nat.le_refl _); clear hg hM3 hb3)
    | (go_at_call 272; refine (close1_any 281 _).mono ?_; rintro e w5 ⟨g2, rfl, hq⟩; have hM5 := hM4.same (hq.block _ hM4.lt); have hb5 := hb4.trans (hq.mono hb4.size); clear hq hM4 hb4)
    | (refine wpList_insert (b := w.heap.size) rfl (.tmp 3) (.const (.string ⟨#[111, 114]⟩)) (.tmp 12) rfl hM5 ⟨#[111, 114]⟩ (.agg #[.int .i64 2, .bool true, (.func (.func 273) #[] #[.pointer (some ⟨g2, 0, none⟩)])]) rfl rfl rfl (by simp) ?_; intro w6 hM6 hg; have hb6 := hb5.grown hg hb5.size (fun k e => by cases e; exact Nat.le_refl _); clear hg hM5 hb5)
    | (go_at_call 272; refine (close1_any 283 _).mono ?_; rintro e w7 ⟨g3, rfl, hq⟩; have hM7 := hM6.same (hq.block _ hM6.lt); have hb7 := hb6.trans (hq.mono hb6.size); clear hq hM6 hb6)
    | (refine wpList_insert (b := w.heap.size) rfl (.tmp 3) (.const (.string ⟨#[105, 116, 101]⟩)) (.tmp 15) rfl hM7 ⟨#[105, 116, 101]⟩ (.agg #[.int .i64 3, .bool false, (.func (.func 273) #[] #[.pointer (some ⟨g3, 0, none⟩)])]) rfl rfl rfl (by simp) ?_; intro w8 hM8 hg; have hb8 := hb7.grown hg hb7.size (fun k e => by cases e; exact Nat.le_refl _); clear hg hM7 hb7)
    | (go_at_call 272; refine (close1_any 284 _).mono ?_; rintro e w9 ⟨g4, rfl, hq⟩; have hM9 := hM8.same (hq.block _ hM8.lt); have hb9 := hb8.trans (hq.mono hb8.size); clear hq hM8 hb8)
    | (refine wpList_insert (b := w.heap.size) rfl (.tmp 3) (.const (.string ⟨#[120, 111, 114]⟩)) (.tmp 18) rfl hM9 ⟨#[120, 111, 114]⟩ (.agg #[.int .i64 2, .bool true, (.func (.func 273) #[] #[.pointer (some ⟨g4, 0, none⟩)])]) rfl rfl rfl (by simp) ?_; intro w10 hM10 hg; have hb10 := hb9.grown hg hb9.size (fun k e => by cases e; exact Nat.le_refl _); clear hg hM9 hb9)
    | (go_at_call 272; refine (close1_any 285 _).mono ?_; rintro e w11 ⟨g5, rfl, hq⟩; have hM11 := hM10.same (hq.block _ hM10.lt); have hb11 := hb10.trans (hq.mono hb10.size); clear hq hM10 hb10)
    | (refine wpList_insert (b := w.heap.size) rfl (.tmp 3) (.const (.string ⟨#[61, 62]⟩)) (.tmp 21) rfl hM11 ⟨#[61, 62]⟩ (.agg #[.int .i64 2, .bool true, (.func (.func 273) #[] #[.pointer (some ⟨g5, 0, none⟩)])]) rfl rfl rfl (by simp) ?_; intro w12 hM12 hg; have hb12 := hb11.grown hg hb11.size (fun k e => by cases e; exact Nat.le_refl _); clear hg hM11 hb11)
    | (go_at_call 272; refine (close1_any 286 _).mono ?_; rintro e w13 ⟨g6, rfl, hq⟩; have hM13 := hM12.same (hq.block _ hM12.lt); have hb13 := hb12.trans (hq.mono hb12.size); clear hq hM12 hb12)
    | (refine wpList_insert (b := w.heap.size) rfl (.tmp 3) (.const (.string ⟨#[100, 105, 115, 116, 105, 110, 99, 116]⟩)) (.tmp 24) rfl hM13 ⟨#[100, 105, 115, 116, 105, 110, 99, 116]⟩ (.agg #[.int .i64 2, .bool true, (.func (.func 273) #[] #[.pointer (some ⟨g6, 0, none⟩)])]) rfl rfl rfl (by simp) ?_; intro w14 hM14 hg; have hb14 := hb13.grown hg hb13.size (fun k e => by cases e; exact Nat.le_refl _); clear hg hM13 hb13)
    | (refine wpList_insert (b := w.heap.size) rfl (.tmp 3) (.const (.string ⟨#[61]⟩)) (.tmp 25) rfl hM14 ⟨#[61]⟩ (.agg #[.int .i64 2, .bool true, (.func (.func 287) #[] #[])]) rfl rfl rfl (by simp) ?_; intro w15 hM15 hg; have hb15 := hb14.grown hg hb14.size (fun k e => by cases e; exact Nat.le_refl _); clear hg hM14 hb14)
    | (go_at_call 275; refine (close2_any false 0 _).mono ?_; rintro e w16 ⟨g8, h8, rfl, hq⟩; have hM16 := hM15.same (hq.block _ hM15.lt); have hb16 := hb15.trans (hq.mono hb15.size); clear hq hM15 hb15)
    | (refine wpList_insert (b := w.heap.size) rfl (.tmp 3) (.const (.string ⟨#[60, 61]⟩)) (.tmp 28) rfl hM16 ⟨#[60, 61]⟩ (.agg #[.int .i64 2, .bool true, (.func (.func 276) #[] #[.pointer (some ⟨g8, 0, none⟩), .pointer (some ⟨h8, 0, none⟩)])]) rfl rfl rfl (by simp) ?_; intro w17 hM17 hg; have hb17 := hb16.grown hg hb16.size (fun k e => by cases e; exact Nat.le_refl _); clear hg hM16 hb16)
    | (go_at_call 275; refine (close2_any false 1 _).mono ?_; rintro e w18 ⟨g9, h9, rfl, hq⟩; have hM18 := hM17.same (hq.block _ hM17.lt); have hb18 := hb17.trans (hq.mono hb17.size); clear hq hM17 hb17)
    | (refine wpList_insert (b := w.heap.size) rfl (.tmp 3) (.const (.string ⟨#[60]⟩)) (.tmp 31) rfl hM18 ⟨#[60]⟩ (.agg #[.int .i64 2, .bool true, (.func (.func 276) #[] #[.pointer (some ⟨g9, 0, none⟩), .pointer (some ⟨h9, 0, none⟩)])]) rfl rfl rfl (by simp) ?_; intro w19 hM19 hg; have hb19 := hb18.grown hg hb18.size (fun k e => by cases e; exact Nat.le_refl _); clear hg hM18 hb18)
    | (go_at_call 275; refine (close2_any true 0 _).mono ?_; rintro e w20 ⟨g10, h10, rfl, hq⟩; have hM20 := hM19.same (hq.block _ hM19.lt); have hb20 := hb19.trans (hq.mono hb19.size); clear hq hM19 hb19)
    | (refine wpList_insert (b := w.heap.size) rfl (.tmp 3) (.const (.string ⟨#[62, 61]⟩)) (.tmp 34) rfl hM20 ⟨#[62, 61]⟩ (.agg #[.int .i64 2, .bool true, (.func (.func 276) #[] #[.pointer (some ⟨g10, 0, none⟩), .pointer (some ⟨h10, 0, none⟩)])]) rfl rfl rfl (by simp) ?_; intro w21 hM21 hg; have hb21 := hb20.grown hg hb20.size (fun k e => by cases e; exact Nat.le_refl _); clear hg hM20 hb20)
    | (go_at_call 275; refine (close2_any true 1 _).mono ?_; rintro e w22 ⟨g11, h11, rfl, hq⟩; have hM22 := hM21.same (hq.block _ hM21.lt); have hb22 := hb21.trans (hq.mono hb21.size); clear hq hM21 hb21)
    | (refine wpList_insert (b := w.heap.size) rfl (.tmp 3) (.const (.string ⟨#[62]⟩)) (.tmp 37) rfl hM22 ⟨#[62]⟩ (.agg #[.int .i64 2, .bool true, (.func (.func 276) #[] #[.pointer (some ⟨g11, 0, none⟩), .pointer (some ⟨h11, 0, none⟩)])]) rfl rfl rfl (by simp) ?_; intro w23 hM23 hg; have hb23 := hb22.grown hg hb22.size (fun k e => by cases e; exact Nat.le_refl _); clear hg hM22 hb22)
    | (refine wpList_insert (b := w.heap.size) rfl (.tmp 3) (.const (.string ⟨#[43]⟩)) (.tmp 38) rfl hM23 ⟨#[43]⟩ (.agg #[.int .i64 2, .bool true, (.func (.func 288) #[] #[])]) rfl rfl rfl (by simp) ?_; intro w24 hM24 hg; have hb24 := hb23.grown hg hb23.size (fun k e => by cases e; exact Nat.le_refl _); clear hg hM23 hb23)
    | (refine wpList_insert (b := w.heap.size) rfl (.tmp 3) (.const (.string ⟨#[45]⟩)) (.tmp 39) rfl hM24 ⟨#[45]⟩ (.agg #[.int .i64 1, .bool true, (.func (.func 290) #[] #[])]) rfl rfl rfl (by simp) ?_; intro w25 hM25 hg; have hb25 := hb24.grown hg hb24.size (fun k e => by cases e; exact Nat.le_refl _); clear hg hM24 hb24)
    | (refine wpList_insert (b := w.heap.size) rfl (.tmp 3) (.const (.string ⟨#[108, 101, 116]⟩)) (.tmp 40) rfl hM25 ⟨#[108, 101, 116]⟩ (.agg #[.int .i64 0, .bool true, (.func (.func 291) #[] #[])]) rfl rfl rfl (by simp) ?_; intro w26 hM26 hg; have hb26 := hb25.grown hg hb25.size (fun k e => by cases e; exact Nat.le_refl _); clear hg hM25 hb25))
  go_ret
  exact ⟨_, rfl, hM26, rfl, rfl, hb26⟩
end Go.Proofs.YtjdgfdpbiidldaaGreatDoor
