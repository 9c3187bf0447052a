/-
  Maps of the call's own (JM): what 'range' over one does: each entry comes once, in some order. No condition.
-/
import Derived.Test.YtjdgfdpbiidldaaGreatDoorJM
import Derived.Maps.RangeWalk
namespace Go.Proofs.YtjdgfdpbiidldaaGreatDoor
open Go.RowKit
namespace JM
section
variable {K : Type} [DecidableEq K] {P : Program} {kt et t : TypeId} {kv : K → Value} {w : World} {b r : Nat} {l : List (K × Value)}

/-- a walk over block b's map: V says which entries have come -/
def Rng (kv : K → Value) (w : World) (b r : Nat) (l : List (K × Value)) (V : Nat → Bool) (cnt : Nat) : Prop :=
  ∃ es clock since seen c0, w.heap[b]? = some (.map es clock) ∧ es.toList.map (fun e => (e.key, e.val)) = l.map (fun p => (kv p.1, p.2)) ∧
    (es.toList.map (·.born)).Pairwise (· < ·) ∧ w.heap[r]? = some (.mapIter (some b) since seen c0) ∧ (∀ x ∈ es.toList, x.born < since) ∧ since ≤ c0 ∧ since ≤ clock ∧
    (leftOf es seen).size = cnt ∧ (∀ i (h : i < es.size), seen.contains es[i].born = V i)

/-- how many are still to come -/
def left (w : World) (b r : Nat) : Nat :=
  match w.heap[b]?, w.heap[r]? with
  | some (.map es _), some (.mapIter _ _ seen _) => (leftOf es seen).size
  | _, _ => 0
omit [DecidableEq K] in
theorem Rng.left_eq {V : Nat → Bool} {cnt : Nat} (h : Rng kv w b r l V cnt) : left w b r = cnt := by
  obtain ⟨es, clock, since, seen, c0, hb, _, _, hr, _, _, _, hc, _⟩ := h
  simp [left, hb, hr, hc]
omit [DecidableEq K] in
theorem Rng.same {w' : World} {V : Nat → Bool} {cnt : Nat} (h : Rng kv w b r l V cnt) (h1 : w'.heap[b]? = w.heap[b]?) (h2 : w'.heap[r]? = w.heap[r]?) : Rng kv w' b r l V cnt := by
  obtain ⟨es, clock, since, seen, c0, hb, a1, a2, hr, rest⟩ := h
  exact ⟨es, clock, since, seen, c0, h1.trans hb, a1, a2, h2.trans hr, rest⟩

omit [DecidableEq K] in
theorem run_rng (ht : P.underlying t = some (.map kt et)) (h : IsM kv w b l) :
    ∃ w', (Instr.range t (.map (some b))).run P w = .ok (.pointer (some ⟨w.heap.size, 0, none⟩)) w' ∧ Rng kv w' b w.heap.size l (fun _ => false) l.length ∧ w.grownBy w' none ∧ w'.heap.size = w.heap.size + 1 := by
  have hlt := h.lt
  obtain ⟨es, clock, hb, hes, hbn, hl, hnd⟩ := h
  have hlen : es.size = l.length := by have := congrArg List.length hes; simpa using this
  refine ⟨_, run_range_map w t kt et b es clock ht hb, ⟨es, clock, clock, #[], clock, ((MapKept.heap_alloc w _).2 b hlt).trans hb, hes, hbn, (MapKept.heap_alloc w _).1, hl, Nat.le_refl _, Nat.le_refl _, ?_, ?_⟩, World.grownBy_alloc w _ none, by simp⟩
  · have e : leftOf es #[] = es := by unfold leftOf; exact Array.filter_eq_self.2 (by simp)
    rw [e, hlen]
  · intro i hi; simp

omit [DecidableEq K] in
theorem run_step {V : Nat → Bool} {cnt : Nat} (h : Rng kv w b r l V cnt) (ty : TypeId) :
    (cnt = 0 ∧ (∀ i, i < l.length → V i = true) ∧ (Instr.next (.pointer (some ⟨r, 0, none⟩)) false ty).run P w = .ok (.tuple #[.bool false]) w) ∨
    ∃ i k v w' cnt', l[i]? = some (k, v) ∧ V i = false ∧ (Instr.next (.pointer (some ⟨r, 0, none⟩)) false ty).run P w = .ok (.tuple #[.bool true, kv k, v]) w' ∧
      Rng kv w' b r l (fun j => V j || j == i) cnt' ∧ cnt' < cnt ∧ w.grownBy w' (some r) ∧ w'.heap.size = w.heap.size ∧ (Instr.entry (.pointer (some ⟨r, 0, none⟩))).run P w' = .ok (.tuple #[kv k, v]) w' := by
  obtain ⟨es, clock, since, seen, c0, hb, hes, hbn, hr, hold, hsc, hsk, rfl, hV⟩ := h
  have hlen : es.size = l.length := by have := congrArg List.length hes; simpa using this
  have hne : b ≠ r := by rintro rfl; rw [hb] at hr; cases hr
  rcases run_next_at (P := P) w ty r b since c0 seen es clock hr hb hold hsc with ⟨h0, hrun⟩ | ⟨e, he, w1, hal, hrun⟩
  · refine .inl ⟨h0, fun i hi => ?_, hrun⟩
    rw [← hV i (by omega)]
    exact all_seen es seen h0 es[i] (by simp)
  · obtain ⟨hem, hes2⟩ := mem_left he
    obtain ⟨i, hi, hie⟩ := List.mem_iff_getElem.1 hem
    have hi2 : i < es.size := by simpa using hi
    have hie2 : es[i] = e := by simpa using hie
    have hl1 : (es.toList.map (fun e => (e.key, e.val)))[i]? = (l.map (fun p => (kv p.1, p.2)))[i]? := by rw [hes]
    have hil : i < l.length := by omega
    simp only [List.getElem?_map] at hl1
    rw [List.getElem?_eq_getElem hi, List.getElem?_eq_getElem hil] at hl1
    simp [hie2] at hl1
    obtain ⟨hk1, hv1⟩ := hl1
    have hr1 : w1.heap[r]? = some (.mapIter (some b) since seen c0) := by rcases hal with rfl | rfl <;> exact hr
    have hb1 : w1.heap[b]? = some (.map es clock) := by rcases hal with rfl | rfl <;> exact hb
    have hset := MapKept.heap_set (o' := .mapIter (some b) since (seen.push e.born) clock) hr1
    have hb' : (ChangeMaps.setBlock w1 r (.mapIter (some b) since (seen.push e.born) clock)).heap[b]? = some (.map es clock) := (hset.2 b hne).trans hb1
    have hnd : (es.toList.map (·.born)).Nodup := hbn.imp (fun h => Nat.ne_of_lt h)
    refine .inr ⟨i, l[i].1, l[i].2, _, _, List.getElem?_eq_getElem hil, ?_, ?_, ⟨es, clock, since, seen.push e.born, clock, hb', hes, hbn, hset.1, hold, hsk, hsk, rfl, ?_⟩, left_shrinks es seen e he, ?_, ?_, ?_⟩
    · rw [← hV i hi2, hie2]; exact hes2
    · rw [← hk1, ← hv1]; exact hrun
    · intro j hj
      rw [contains_push, hV j hj]
      congr 1
      rw [Bool.eq_iff_iff]
      simp only [beq_iff_eq]
      constructor
      · intro e2
        have := (List.getElem_inj (i := j) (j := i) (h₀ := by simpa using hj) (h₁ := by simpa using hi2) hnd).1 (by simp [e2, hie2])
        exact this
      · rintro rfl; rw [hie2]
    · rcases hal with rfl | rfl <;> exact ⟨rfl, rfl, rfl, by simp [ChangeMaps.setBlock], fun i _ hi => hset.2 i (fun e1 => hi (by rw [e1]))⟩
    · rcases hal with rfl | rfl <;> simp [ChangeMaps.setBlock]
    · rw [← hk1, ← hv1]
      exact run_entry_at _ r b since seen es clock e hset.1 hb' hem hnd
end

section
variable {K : Type} [DecidableEq K] {P : Program} {kt et t : TypeId} {kv : K → Value} {b r : Nat} {l : List (K × Value)}
variable (w : World) {ops : Array Oper} {rest : List Oper} {o : Oper} {a : Act} {Q : Exit → Act → World → Prop}

omit [DecidableEq K] in
theorem wpList_range_j (hg : o.guard = none) (m : Operand) (hop : o.op = Op.range t m) (ht : P.underlying t = some (.map kt et)) (hm : a.eval m = .map (some b)) (hown : IsM kv w b l)
    (hK : ∀ w', Rng kv w' b w.heap.size l (fun _ => false) l.length → w.grownBy w' none → w'.heap.size = w.heap.size + 1 → wpList P ops Q rest (a.put o.dst (.pointer (some ⟨w.heap.size, 0, none⟩))) w') :
    wpList P ops Q (o :: rest) a w := by
  refine wpList_plain hg fun K' hK' => ?_
  obtain ⟨w', hrun, r1, r2, r3⟩ := run_rng (P := P) ht hown
  unfold Oper.wp
  simp [execOp, hop, hm, hrun, Result.andThen]
  exact hK' _ _ (hK w' r1 r2 r3)

omit [DecidableEq K] in
theorem wpList_next_j (hg : o.guard = none) (it : Operand) (hop : o.op = Op.next it false) {V : Nat → Bool} {cnt : Nat} (hit : a.eval it = .pointer (some ⟨r, 0, none⟩)) (h : Rng kv w b r l V cnt)
    (hDone : (∀ i, i < l.length → V i = true) → wpList P ops Q rest (a.put o.dst (.tuple #[.bool false])) w)
    (hMore : ∀ i k v w' cnt', l[i]? = some (k, v) → V i = false → Rng kv w' b r l (fun j => V j || j == i) cnt' → cnt' < cnt → w.grownBy w' (some r) → w'.heap.size = w.heap.size →
      (Instr.entry (.pointer (some ⟨r, 0, none⟩))).run P w' = .ok (.tuple #[kv k, v]) w' → wpList P ops Q rest (a.put o.dst (.tuple #[.bool true, kv k, v])) w') :
    wpList P ops Q (o :: rest) a w := by
  refine wpList_plain hg fun K' hK' => ?_
  unfold Oper.wp
  rcases run_step (P := P) h o.type with ⟨_, hall, hrun⟩ | ⟨i, k, v, w', cnt', h1, h2, hrun, h3, h4, h5, h6, h7⟩
  · simp [execOp, hop, hit, hrun, Result.andThen]
    exact hK' _ _ (hDone hall)
  · simp [execOp, hop, hit, hrun, Result.andThen]
    exact hK' _ _ (hMore i k v w' cnt' h1 h2 h3 h4 h5 h6 h7)
end
end JM
end Go.Proofs.YtjdgfdpbiidldaaGreatDoor
