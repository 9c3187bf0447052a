/-
  Layer 3 (lex): Tokens of a plain word. Conditions: the text's own size; the bytes lie where they are said to lie.
-/
import Derived.Test.YtjdgfdpbiidldaaGreatDoorLx7
import Derived.Great.Ranges
import Derived.Test.YtjdgfdpbiidldaaGreatDoorTab
namespace Go.Proofs.YtjdgfdpbiidldaaGreatDoor
open Go.RowKit

theorem letter_tests : ∀ n, n < 256 → bits BinOp.and IntKind.u8 (cls n) 1 ≠ 0 → ((n : Int) == 40) = false ∧ ((n : Int) == 41) = false ∧ ((n : Int) == 124) = false ∧ ((n : Int) == 34) = false ∧ ((n : Int) == 58) = false ∧ ((n : Int) == 35) = false ∧ ((n : Int) == 59) = false ∧ (bits BinOp.and IntKind.u8 (cls n) 4 != 0) = false := by decide +kernel

theorem info34 : (Tryz.prog.info? 34).map (fun i => (i.zero, i.size, i.bytes)) = some (some (.agg #[.int .u8 0, .string ⟨#[]⟩, .int .i64 0]), 3, 32) := by kernel_rfl

set_option maxHeartbeats 2000000 in
set_option maxRecDepth 100000 in
theorem tokens_plain (g o cap : Nat) (l : List UInt8) (w : World) (hb : ∀ j x, l[j]? = some x → w.cell? ⟨g, o + j, none⟩ = some (.int .u8 x.toNat)) (hg : g < w.heap.size) (hc : l.length ≤ cap) (hl : l.length ≤ 1048576) (hp : plainB l = true) :
    Calls Tryz.prog 193 #[.slice (some ⟨g, o, none⟩) l.length cap] w fun e w' => ∃ v, e = .returned (.tuple #[v, .int .i64 l.length, .int .i64 0]) ∧ w'.ownsRow w.heap.size 34 3 v 1 [.int .u8 3, .string ⟨l.toArray⟩, .int .i64 0] ∧ Below w.heap.size w w' := by
  obtain ⟨i0, hi, hz0, hz1, hz2⟩ := info_parts info34
  obtain ⟨C, hC⟩ : ∃ C, C = clsCells := ⟨_, rfl⟩
  obtain ⟨R, hR⟩ : ∃ R, R = rdCells (.slice (some ⟨g, o, none⟩) l.length cap) 0 := ⟨_, rfl⟩
  have hbr : ∀ w, (Instr.build 382 #[(0, .agg C), (1, .slice (some ⟨g, o, none⟩) l.length cap)]).run Tryz.prog w = .ok (.agg R) w := by rw [hC, hR]; exact fun w => build_rd w _ rfl
  have hcl := classes_any w
  rw [← hC] at hcl
  have h1 : (Tryz.prog.info? 382).map (·.size) = some R.size := by rw [hR, rdCells_size]; exact hi382
  have h3 : R.all (·.oneCell') = true := by rw [hR]; exact rdCells_one _ _ rfl
  have HR := Lib.hid hR
  have Hb := Lib.hid hb
  clear hC hR hb
  go_enter Tryz.func193, Tryz.ntmps193
  go_wp2_with fail
  refine hcl.mono ?_
  rintro e w1 ⟨rfl, hb1⟩
  go_wp2_with (first | (refine wpList_build2 rfl 382 0 1 (.tmp 13) (.tmp 14) rfl (.agg R) ?hbd ?_; case hbd => exact hbr _) | (refine wpList_boxTo rfl 382 (.tmp 15) rfl (some 16) rfl w1.heap.size rfl R rfl ?_))
  obtain ⟨W0, hW0⟩ : ∃ W0, W0 = w1.alloc (Obj.cells R 382) := ⟨_, rfl⟩
  have hrd0 : IsRd W0 w1.heap.size g o cap l (0 : Nat) := by
    have := hb1.size
    refine ⟨?_, fun j x hx => ?_, by omega, hc⟩
    · rw [hW0, heap_alloc_new, HR.out]; rfl
    · rw [hW0, ← Hb.out j x hx]
      have h2 := ((hb1.alloc hb1.size (Obj.cells R 382))).cell (p := ⟨g, o + j, none⟩) hg
      exact h2
  have hbel0 : Below w.heap.size w W0 := by rw [hW0]; exact hb1.alloc hb1.size _
  have hsz1 := hb1.size
  rw [← hW0]
  clear hW0 hbr hcl h1 h3
  obtain ⟨B, hB⟩ : ∃ B, B = w1.heap.size := ⟨_, rfl⟩
  rw [← hB] at hrd0 hsz1 ⊢
  have HB := Lib.hid hB
  clear hB hb1 HR
  obtain ⟨x, hx⟩ : ∃ x, l[0]? = some x := by
    cases hl : l with
    | nil => rw [hl] at hp; simp [plainB, allB] at hp
    | cons a m => exact ⟨a, rfl⟩
  have hpos : 0 < l.length := (List.getElem?_eq_some_iff.1 hx).1
  have hall : ∀ y ∈ l, isC 1 y = true := by
    have h : allB 1 l = true := by unfold plainB at hp; exact (Bool.and_eq_true _ _ ▸ hp).1
    unfold allB at h
    rw [Bool.and_eq_true] at h
    simpa using h.2
  have hword : wordAt l 0 = l := by
    unfold wordAt
    rw [List.drop_zero]
    have h := takeWhile_stop (isC 1) l l.length (Nat.le_refl _) (fun j y _ hy => hall y (List.mem_of_getElem? hy)) (fun y hy => by simp at hy)
    rw [h, List.take_length]
  have hx1 : isC 1 x = true := hall x (List.mem_of_getElem? hx)
  have hxl : x.toNat < 256 := UInt8.toNat_lt x
  obtain ⟨t40, t41, t124, t34, t58, t35, t59, t4⟩ := letter_tests x.toNat hxl (by simpa [isC] using hx1)
  have Hx := Lib.hid hx
  have Hword := Lib.hid hword
  clear hx hword hall hx1
  go_loopw [6, 7, 8, 9] (fun v6 _ _ _ wr => (v6 = .slice none 0 0 ∧ wr = W0) ∨ (∃ gg c2, v6 = .slice (some ⟨gg, 0, none⟩) 1 c2 ∧ wr.ownsRow w.heap.size 34 3 (.slice (some ⟨gg, 0, none⟩) 1 c2) 1 [.int .u8 3, .string ⟨l.toArray⟩, .int .i64 0] ∧ IsRd wr B g o cap l l.length ∧ Below w.heap.size w wr))
    (fun v6 _ _ _ _ => match v6 with | .slice none _ _ => 1 | _ => 0)
  case atStart => exact .inl ⟨rfl, rfl⟩
  case round =>
    rcases hrel with ⟨rfl, rfl⟩ | ⟨gg, c2, rfl, hown, hrd, hbel⟩
    · have c256 := hrd0.c256
      have c257 := hrd0.c257
      have cb := hrd0.bytes 0 x Hx.out
      rw [Nat.add_zero] at cb
      have cc := hrd0.cls x.toNat hxl
      have hxi : (x.toNat : Int) < 256 := by omega
      go_wp2
      go_quiet (fail)
      go_wp2_with fail
      have hk : wordKind ⟨l.toArray⟩ = (3, 0) := by
        have e : (⟨l.toArray⟩ : ByteArray).toList = l := by rw [ByteArray.toList_eq]
        unfold wordKind
        rw [e, if_neg (by intro h; rw [h] at hpos; simp at hpos), if_pos hp]
      refine (token_word B g o cap l 0 x _ (hrd0.drewN nq) Hx.out (by omega) t40 t41 t124 t34 t58 t35).mono ?_
      rintro e w2 ⟨rfl, hrd2, hU2⟩
      rw [Hword.out] at hrd2 ⊢
      rw [hk]
      simp only [Nat.zero_add] at hrd2
      have hU3 : Upd (fun k => w.heap.size ≤ k) w w2 := ((Upd.of_below hbel0).drewN nq).then hU2 (fun i _ e => by rw [e]; exact hsz1)
      have hbel2 : Below w.heap.size w w2 := hU3.below (Nat.le_refl _) (fun k hk hn => by omega)
      clear hU2 hU3 hk c256 c257 cb cc hrd0 hbel0
      have hs2 := hbel2.size
      go_wp2_with (at_builtin; refine wpList_append_own _ rfl (.tmp 38) (.tmp 40) 69 rfl w.heap.size 34 i0 _ 3 32 Tryz.underlying69 hi hz0 hz1 hz2 rfl (by decide) _ _ _ rfl (World.ownsRow_nil _ _ 34 3) ⟨w2.heap.size + 1, 0, none⟩ 1 1 [.int .u8 3, .string ⟨l.toArray⟩, .int .i64 0] rfl rfl ?c1 ?c2 ?c3 ?c4 ?c5 ?_)
      case c1 =>
        intro j u hu
        have h := new_cells (w2.alloc (Obj.cells #[Value.int IntKind.u8 3, Value.string { data := l.toArray }, Value.int IntKind.i64 0] 34)) [Value.int IntKind.u8 3, Value.string { data := l.toArray }, Value.int IntKind.i64 0] 34 j u hu
        simpa using h
      case c2 => intro u hu; simp at hu; rcases hu with rfl | rfl | rfl <;> rfl
      case c3 => unfold maxLen; omega
      case c4 => omega
      case c5 => simp; omega
      intro v' w3 hown3 hgrow _
      have hU4 := ((Upd.alloc (Upd.alloc (Upd.refl (fun _ => False) w2) _) _).grown hgrow (fun k hk _ => by simp [Value.ownBlock] at hk))
      have hrd3 := hrd2.upd hU4 (fun x => x) (fun _ x => x)
      have hbel3 := hbel2.trans (hU4.below hs2 (fun _ _ x => x))
      obtain ⟨g', cap', rfl⟩ := ownsRow_pos hown3
      clear hgrow hU4 hrd2 hbel2 hs2
      have c257 := hrd3.c257
      go_wp2
      go_roundw
      case rel => exact .inr ⟨g', cap', rfl, hown3, hrd3, hbel3⟩
      case measure => show (0 : Nat) < 1; omega
    · have c257 := hrd.c257
      go_wp2
      go_ret3
      exact ⟨_, rfl, hown, hbel⟩
end Go.Proofs.YtjdgfdpbiidldaaGreatDoor
