/-
  Layer 3 (lex): Plain. No condition but the text's own size.
-/
import Derived.Test.YtjdgfdpbiidldaaGreatDoorLx3
import Derived.Laws.Tables
namespace Go.Proofs.YtjdgfdpbiidldaaGreatDoor
open Go.RowKit

theorem wpList_build {P : Program} {w : World} {ops : Array Oper} {rest : List Oper} {o : Oper} {a : Act} {Q : Exit → Act → World → Prop} (hgd : o.guard = none) (t : TypeId) (parts : Array (Nat × Operand)) (ho : o.op = .build t parts)
    (v : Value) (hrun : (Instr.build t (parts.map fun (i, x) => (i, a.eval x))).run P w = .ok v w) (h : wpList P ops Q rest (a.put o.dst v) w) : wpList P ops Q (o :: rest) a w := by
  refine wpList_plain hgd fun K' hK' => ?_
  unfold Oper.wp
  simp [execOp, ho, hrun, Result.andThen]
  exact hK' _ _ h

theorem wpList_build1 {P : Program} {w : World} {ops : Array Oper} {rest : List Oper} {o : Oper} {a : Act} {Q : Exit → Act → World → Prop} (hgd : o.guard = none) (t : TypeId) (i : Nat) (x : Operand) (ho : o.op = .build t #[(i, x)])
    (v : Value) (hrun : (Instr.build t #[(i, a.eval x)]).run P w = .ok v w) (h : wpList P ops Q rest (a.put o.dst v) w) : wpList P ops Q (o :: rest) a w :=
  wpList_build hgd t _ ho v (by simpa using hrun) h
theorem wpList_build2 {P : Program} {w : World} {ops : Array Oper} {rest : List Oper} {o : Oper} {a : Act} {Q : Exit → Act → World → Prop} (hgd : o.guard = none) (t : TypeId) (i j : Nat) (x y : Operand) (ho : o.op = .build t #[(i, x), (j, y)])
    (v : Value) (hrun : (Instr.build t #[(i, a.eval x), (j, a.eval y)]).run P w = .ok v w) (h : wpList P ops Q rest (a.put o.dst v) w) : wpList P ops Q (o :: rest) a w :=
  wpList_build hgd t _ ho v (by simpa using hrun) h

def rdCells (v : Value) (at_ : Int) : Array Value := clsCells ++ #[v, .int .i64 at_]
theorem rdCells_cls (v : Value) (n : Int) (j : Nat) (hj : j < 256) : (rdCells v n)[j]? = some (.int .u8 (cls j)) := by
  rw [rdCells, Array.getElem?_append_left (by simp [clsCells]; exact hj)]; exact clsCells_at j hj
theorem rdCells_b (v : Value) (n : Int) : (rdCells v n)[256]? = some v := by
  rw [rdCells, Array.getElem?_append_right (by simp [clsCells])]; simp [clsCells]
theorem rdCells_at (v : Value) (n : Int) : (rdCells v n)[257]? = some (.int .i64 n) := by
  rw [rdCells, Array.getElem?_append_right (by simp [clsCells])]; simp [clsCells]
theorem rdCells_size (v : Value) (n : Int) : (rdCells v n).size = 258 := by simp [rdCells, clsCells]
theorem rdCells_one (v : Value) (n : Int) (hv : v.oneCell' = true) : (rdCells v n).all (·.oneCell') = true := by
  rw [Array.all_eq_true_iff_forall_mem]
  intro x hx
  rcases Array.mem_append.1 hx with hx | hx
  · obtain ⟨c, _, rfl⟩ := Array.mem_map.1 hx; rfl
  · simp at hx
    rcases hx with rfl | rfl
    · exact hv
    · rfl
theorem hi382 : (Tryz.prog.info? 382).map (·.size) = some 258 := by kernel_rfl
theorem zsize382 : Tryz.zeroCells382.size = 258 := by kernel_rfl

/-- may a text stand without bars? -/
def plainB (l : List UInt8) : Bool := allB 1 l && (match l with | x :: _ => !isC 2 x | [] => false)

set_option maxHeartbeats 1000000 in
set_option maxRecDepth 100000 in
theorem plain_any (s : ByteArray) (w : World) (hs : s.size ≤ 9223372036854775806) :
    Calls Tryz.prog 191 #[.string s] w fun e w' => e = .returned (.bool (plainB s.toList)) ∧ Below w.heap.size w w' := by
  have Hs := Lib.hid hs
  clear hs
  obtain ⟨C, hC⟩ : ∃ C, C = clsCells := ⟨_, rfl⟩
  obtain ⟨R, hR⟩ : ∃ R, R = rdCells (.slice none 0 0) 0 := ⟨_, rfl⟩
  have hbr : ∀ w, (Instr.build 382 #[(0, .agg C)]).run Tryz.prog w = .ok (.agg R) w := by rw [hC, hR]; exact build_rd0
  have hcl := classes_any w
  rw [← hC] at hcl
  have h1 : (Tryz.prog.info? 382).map (·.size) = some R.size := by rw [hR, rdCells_size]; exact hi382
  have h2 : Tryz.zeroCells382.size = R.size := by rw [hR, rdCells_size]; exact zsize382
  have h3 : R.all (·.oneCell') = true := by rw [hR]; exact rdCells_one _ _ rfl
  have h4 : ∀ j, j < 256 → R[j]? = some (.int .u8 (cls j)) := by rw [hR]; exact rdCells_cls _ _
  clear hC hR
  go_enter Tryz.func191, Tryz.ntmps191
  go_wp2_with fail
  refine hcl.mono ?_
  rintro e w1 ⟨rfl, hb1⟩
  simp only []
  go_step
  refine wpList_build1 rfl 382 0 (.tmp 4) rfl (.agg R) (hbr w1) ?_
  go_wp2_with (first | (refine wpList_store_row rfl 382 _ _ rfl w1.heap.size R rfl rfl 382 Tryz.zeroCells382 (heap_alloc_new w1 _) h1 h2 h3 ?_))
  obtain ⟨W, hW⟩ : ∃ W, W = (w1.alloc (Obj.cells Tryz.zeroCells382 382)).setRow w1.heap.size R := ⟨_, rfl⟩
  have hcell : ∀ j, j < 256 → W.cell? ⟨w1.heap.size, j, none⟩ = some (.int .u8 (cls j)) := by
    intro j hj
    rw [hW, Lib.cell_of_heap (setRow_heap _ w1.heap.size Tryz.zeroCells382 R 382 (0, 0) (heap_alloc_new w1 _))]
    exact h4 j hj
  have hbel : Below w.heap.size w W := by
    rw [hW]
    exact (hb1.alloc hb1.size _).trans ⟨rfl, rfl, rfl, by simp [World.setRow], fun k hk => setRow_other _ w1.heap.size k R (by have := hb1.size; omega)⟩
  rw [← hW]
  clear hW h1 h2 h3 h4 hbr hcl hb1
  refine (all_any w1.heap.size s 1 W Hs.out hcell).mono ?_
  rintro e w2 ⟨rfl, n, rfl⟩
  have Hcell := Lib.hid hcell
  clear hcell
  cases hA : allB 1 s.toList with
  | false =>
    go_wp2
    go_ret
    exact ⟨by simp [plainB, hA], below_drewN hbel n⟩
  | true =>
    have hpos : 0 < s.size := by
      have h : s.toList ≠ [] := by intro h; rw [h] at hA; simp [allB] at hA
      have := toList_length s
      have h3 : 0 < s.toList.length := List.length_pos_iff.2 h
      omega
    have hx := toList_get s 0 hpos
    have hx2 : (s[0].toNat : Int) < 256 := by have := UInt8.toNat_lt s[0]; omega
    have hc : W.cell? ⟨w1.heap.size, s[0].toNat, none⟩ = some (.int .u8 (cls s[0].toNat)) := Hcell.out _ (by omega)
    have hp : plainB s.toList = (bits BinOp.and IntKind.u8 (cls s[0].toNat) 2 == 0) := by
      cases hl : s.toList with
      | nil => rw [hl] at hx; simp at hx
      | cons x l =>
        rw [hl] at hx hA
        simp at hx
        subst hx
        simp [plainB, hA, isC, bne]
    have Hp := Lib.hid hp
    clear hx hA hp
    go_wp2
    go_ret
    refine ⟨?_, below_drewN hbel n⟩
    rw [Hp.out]
    rfl
end Go.Proofs.YtjdgfdpbiidldaaGreatDoor
