/-
  Layer 27 (answers): the words for errors. No condition.
-/
import Derived.Test.YtjdgfdpbiidldaaGreatDoorJR
import Derived.Test.YtjdgfdpbiidldaaGreatDoorFr
import Derived.Test.YtjdgfdpbiidldaaGreatDoorShelf
namespace Go.Proofs.YtjdgfdpbiidldaaGreatDoor
open Go.RowKit

def ints (xs : List Int) : Array Value := (xs.map (Value.int .i64)).toArray

/-- a map from words to rows of errors lies at b -/
def Wds (w : World) (B b : Nat) (spec : List (ByteArray × List Int)) : Prop :=
  ∃ l : List (ByteArray × Value), JM.IsM Value.string w b l ∧ l.length = spec.length ∧ B ≤ b ∧
    ∀ (i : Nat) (p : ByteArray × Value) (q : ByteArray × List Int), l[i]? = some p → spec[i]? = some q → p.1 = q.1 ∧ ∃ g, p.2 = .slice (some ⟨g, 0, none⟩) q.2.length q.2.length ∧ w.heap[g]? = some (.cells (ints q.2) 42 (0, 0))

theorem findAt_new {key : ByteArray} : ∀ {l : List (ByteArray × Value)} {i : Nat}, key ∉ l.map (·.1) → JM.findAt key l i = none
  | [], _, _ => rfl
  | p :: l, i, h => by
    simp only [List.map_cons, List.mem_cons, not_or] at h
    unfold JM.findAt
    rw [if_neg h.1]
    exact findAt_new h.2

theorem Wds.add {w : World} {B b : Nat} {spec : List (ByteArray × List Int)} (h : Wds w B b spec) (key : ByteArray) (xs : List Int) (hnew : key ∉ spec.map (·.1)) :
    ∃ w', (Instr.mapUpdate 233 (.map (some b)) (.string key) (.slice (some ⟨w.heap.size, 0, none⟩) xs.length xs.length)).run Tryz.prog (w.alloc (.cells (ints xs) 42)) = .ok () w' ∧ Wds w' B b (spec ++ [(key, xs)]) ∧ (w.alloc (.cells (ints xs) 42)).grownBy w' (some b) := by
  obtain ⟨l, hM, hlen, hB, hall⟩ := h
  have hM2 : JM.IsM Value.string (w.alloc (.cells (ints xs) 42)) b l := hM.same (Lib.alloc_old w _ b hM.lt)
  obtain ⟨w', hrun, hM3, hg⟩ := JM.run_update (P := Tryz.prog) (JM.string_kind Tryz.underlying9) Tryz.underlying233 hM2 key (.slice (some ⟨w.heap.size, 0, none⟩) xs.length xs.length)
  have hkl : key ∉ l.map (·.1) := by
    intro hmem
    obtain ⟨p, hp, hpk⟩ := List.mem_map.1 hmem
    obtain ⟨i, hi⟩ := List.mem_iff_getElem?.1 hp
    have hil := (List.getElem?_eq_some_iff.1 hi).1
    obtain ⟨q, hq⟩ : ∃ q, spec[i]? = some q := ⟨_, List.getElem?_eq_getElem (by omega)⟩
    have := (hall i p q hi hq).1
    exact hnew (List.mem_map.2 ⟨q, List.mem_of_getElem? hq, by rw [← this, hpk]⟩)
  have hput : JM.put l key (.slice (some ⟨w.heap.size, 0, none⟩) xs.length xs.length) = l ++ [(key, .slice (some ⟨w.heap.size, 0, none⟩) xs.length xs.length)] := by
    unfold JM.put
    rw [findAt_new hkl]
  rw [hput] at hM3
  have hbk : ∀ (g : Nat) (cs : Array Value), (w.alloc (.cells (ints xs) 42)).heap[g]? = some (Obj.cells cs 42 (0, 0)) → w'.heap[g]? = some (Obj.cells cs 42 (0, 0)) := by
    intro g cs hh
    rw [hg.block g (Array.getElem?_eq_some_iff.1 hh).1 (fun e => ?_)]
    · exact hh
    · cases e
      obtain ⟨es, clock, hq, _⟩ := hM2
      rw [hq] at hh; cases hh
  refine ⟨w', hrun, ⟨_, hM3, by simp [hlen], hB, ?_⟩, hg⟩
  intro i p q hp hq
  by_cases hi : i < l.length
  · rw [List.getElem?_append_left hi] at hp
    rw [List.getElem?_append_left (by omega)] at hq
    obtain ⟨h1, g, h2, h3⟩ := hall i p q hp hq
    exact ⟨h1, g, h2, hbk g _ ((Lib.alloc_old w _ g (Array.getElem?_eq_some_iff.1 h3).1).trans h3)⟩
  · have hi2 := (List.getElem?_eq_some_iff.1 hp).1
    simp at hi2
    have : i = l.length := by omega
    subst this
    rw [List.getElem?_append_right (Nat.le_refl _)] at hp
    rw [List.getElem?_append_right (by omega)] at hq
    simp [hlen] at hp hq
    subst hp hq
    exact ⟨rfl, w.heap.size, rfl, hbk _ _ (heap_alloc_new w _)⟩

theorem wpList_word {B b : Nat} {spec : List (ByteArray × List Int)} {w : World} {ops : Array Oper} {rest : List Oper} {o : Oper} {a : Act} {Q : Exit → Act → World → Prop} (hg : o.guard = none) (m k x : Operand) (ho : o.op = .insert 233 m k x) (hW : Wds w B b spec) (key : ByteArray) (xs : List Int)
    (hm : a.eval m = .map (some b)) (hk : a.eval k = .string key) (G : Nat) (hG : w.heap.size = G) (hx : a.eval x = .slice (some ⟨G, 0, none⟩) xs.length xs.length) (hnew : key ∉ spec.map (·.1))
    (hK : ∀ w', Wds w' B b (spec ++ [(key, xs)]) → (w.alloc (.cells (ints xs) 42)).grownBy w' (some b) → wpList Tryz.prog ops Q rest (a.put o.dst undef) w') : wpList Tryz.prog ops Q (o :: rest) a (w.alloc (.cells (ints xs) 42)) := by
  subst hG
  refine wpList_plain hg fun K' hK' => ?_
  obtain ⟨w', hrun, h1, h2⟩ := hW.add key xs hnew
  unfold Oper.wp
  simp [execOp, ho, hm, hk, hx, hrun, Result.andThen]
  exact hK' _ _ (hK w' h1 h2)
end Go.Proofs.YtjdgfdpbiidldaaGreatDoor
