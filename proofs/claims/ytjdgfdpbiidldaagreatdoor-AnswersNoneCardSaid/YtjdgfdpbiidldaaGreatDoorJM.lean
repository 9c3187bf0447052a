/-
  Maps of the call's own, whatever the keys' kind and the elements: a block reads as a list of keys and values, each key once, in the order in which they came. What a look-up, a store, a delete and len do to it. Conditions: the keys' kind (KeyKind), which strings and integers meet.
-/
import Derived.Test.YtjdgfdpbiidldaaGreatDoorA0
import Derived.MapKept
import Derived.Maps.OwnSet
import Derived.ChangeMaps
namespace Go.Proofs.YtjdgfdpbiidldaaGreatDoor
open Go.RowKit
open Go.ChangeMaps (setBlock)
namespace JM

section
variable {K : Type} [DecidableEq K]

/-- where a key stands, and what it has -/
def findAt (k : K) : List (K × Value) → Nat → Option (Nat × Value)
  | [], _ => none
  | p :: l, i => if k = p.1 then some (i, p.2) else findAt k l (i + 1)
def get (l : List (K × Value)) (k : K) : Option Value := (findAt k l 0).map (·.2)
def put (l : List (K × Value)) (k : K) (v : Value) : List (K × Value) := match findAt k l 0 with | some (i, _) => l.set i (k, v) | none => l ++ [(k, v)]
def del (l : List (K × Value)) (k : K) : List (K × Value) := match findAt k l 0 with | some (i, _) => l.eraseIdx i | none => l

/-- what a kind of keys must meet -/
structure KeyKind (P : Program) (kt : TypeId) (kv : K → Value) : Prop where
  find : ∀ (w : World) (k : K) (l : List (K × Value)) (es : List MapEntry), es.map (fun e => (e.key, e.val)) = l.map (fun p => (kv p.1, p.2)) → (Instr.findKey kt (kv k) es).run P w = .ok (findAt k l 0) w
  check : ∀ (w : World) (b : Bool) (k : K), (Instr.checkKey b 10000 kt (kv k)).run P w = .ok () w
  bits : ∀ k, Instr.sameBits 10000 (kv k) (kv k) = true

/-- block b reads as l -/
def IsM (kv : K → Value) (w : World) (b : Nat) (l : List (K × Value)) : Prop :=
  ∃ es clock, w.heap[b]? = some (.map es clock) ∧ es.toList.map (fun e => (e.key, e.val)) = l.map (fun p => (kv p.1, p.2)) ∧
    (es.toList.map (·.born)).Pairwise (· < ·) ∧ (∀ e ∈ es.toList, e.born < clock) ∧ (l.map (·.1)).Nodup

omit [DecidableEq K] in
theorem IsM.lt {kv : K → Value} {w : World} {b : Nat} {l : List (K × Value)} (h : IsM kv w b l) : b < w.heap.size := by
  obtain ⟨es, clock, hb, _⟩ := h
  exact (Array.getElem?_eq_some_iff.1 hb).1
omit [DecidableEq K] in
theorem IsM.same {kv : K → Value} {w w' : World} {b : Nat} {l : List (K × Value)} (h : IsM kv w b l) (hs : w'.heap[b]? = w.heap[b]?) : IsM kv w' b l := by
  obtain ⟨es, clock, hb, r⟩ := h
  exact ⟨es, clock, hs.trans hb, r⟩
omit [DecidableEq K] in
theorem isM_new {kv : K → Value} (w : World) : IsM kv (w.alloc (.map #[] 0)) w.heap.size [] :=
  ⟨#[], 0, heap_alloc_new w _, by simp, by simp, by simp, by simp⟩

theorem findAt_none {k : K} : ∀ {l : List (K × Value)} {i : Nat}, findAt k l i = none → k ∉ l.map (·.1)
  | [], _, _ => by simp
  | p :: l, i, h => by
    unfold findAt at h
    split at h
    · cases h
    · rename_i hne
      have := findAt_none (l := l) h
      simp only [List.map_cons, List.mem_cons, not_or]
      exact ⟨hne, this⟩
theorem findAt_some {k : K} : ∀ {l : List (K × Value)} {i j : Nat} {v : Value}, findAt k l i = some (j, v) → i ≤ j ∧ l[j - i]? = some (k, v)
  | [], _, _, _, h => by cases h
  | p :: l, i, j, v, h => by
    unfold findAt at h
    split at h
    · rename_i he
      cases h
      refine ⟨Nat.le_refl _, ?_⟩
      rw [Nat.sub_self]; simp [he]
    · obtain ⟨h1, h2⟩ := findAt_some (l := l) h
      refine ⟨by omega, ?_⟩
      have : j - i = (j - (i + 1)) + 1 := by omega
      rw [this]; simpa using h2
theorem put_keys {k : K} {v : Value} {l : List (K × Value)} : (put l k v).map (·.1) = if k ∈ l.map (·.1) then l.map (·.1) else l.map (·.1) ++ [k] := by
  unfold put
  cases h : findAt k l 0 with
  | none => simp [findAt_none h]
  | some p =>
    obtain ⟨i, u⟩ := p
    obtain ⟨_, h2⟩ := findAt_some h
    rw [Nat.sub_zero] at h2
    have hm : k ∈ l.map (·.1) := List.mem_map.2 ⟨(k, u), List.mem_of_getElem? h2, rfl⟩
    rw [if_pos hm]
    obtain ⟨hi, he⟩ := List.getElem?_eq_some_iff.1 h2
    simp only [List.map_set]
    apply List.ext_getElem?
    intro j
    rw [List.getElem?_set]
    split
    · rename_i hij; subst hij; simp [hi, he]
    · rfl
theorem put_nodup {k : K} {v : Value} {l : List (K × Value)} (h : (l.map (·.1)).Nodup) : ((put l k v).map (·.1)).Nodup := by
  rw [put_keys]
  split
  · exact h
  · rename_i hn
    refine List.nodup_append.2 ⟨h, by simp, ?_⟩
    intro a ha b hb
    simp at hb; subst hb
    intro e; subst e; exact hn ha

variable {P : Program} {kt : TypeId} {kv : K → Value} {w : World} {b : Nat} {l : List (K × Value)} {t et : TypeId}

theorem run_lookup (KK : KeyKind P kt kv) (ht : P.underlying t = some (.map kt et)) (h : IsM kv w b l) {z : Value} (hz : (zeroValue et).run P w = .ok z w) (k : K) (c : Bool) :
    (Instr.lookup t (.map (some b)) (kv k) c).run P w = .ok (if c then .tuple #[(get l k).getD z, .bool (get l k).isSome] else (get l k).getD z) w := by
  obtain ⟨es, clock, hb, hes, _⟩ := h
  unfold get
  cases hf : findAt k l 0 with
  | none =>
    have := KK.find w k l es.toList hes
    rw [hf] at this
    cases c <;> simp [Instr.lookup, run_underlying ht, MapKept.run_getObj_map hb, KK.check, this, hz, Result.andThen]
  | some p =>
    have := KK.find w k l es.toList hes
    rw [hf] at this
    cases c <;> simp [Instr.lookup, run_underlying ht, MapKept.run_getObj_map hb, KK.check, this, Result.andThen]

theorem run_lookup_nil (ht : P.underlying t = some (.map kt et)) (KK : KeyKind P kt kv) {z : Value} (hz : (zeroValue et).run P w = .ok z w) (k : K) (c : Bool) :
    (Instr.lookup t (.map none) (kv k) c).run P w = .ok (if c then .tuple #[z, .bool false] else z) w := by
  have := KK.find w k [] [] rfl
  cases c <;> simp [Instr.lookup, run_underlying ht, KK.check, this, hz, Result.andThen, findAt]

theorem run_update (KK : KeyKind P kt kv) (ht : P.underlying t = some (.map kt et)) (h : IsM kv w b l) (k : K) (v : Value) :
    ∃ w', (Instr.mapUpdate t (.map (some b)) (kv k) v).run P w = .ok () w' ∧ IsM kv w' b (put l k v) ∧ w.grownBy w' (some b) := by
  obtain ⟨es, clock, hb, hes, hbn, hlt, hnd⟩ := h
  have hlen : es.toList.length = l.length := by have := congrArg List.length hes; simpa using this
  cases hf : findAt k l 0 with
  | none =>
    have hfk := KK.find w k l es.toList hes
    rw [hf] at hfk
    refine ⟨{ w with heap := w.heap.setIfInBounds b (.map (es.push { key := kv k, val := v, born := clock }) (clock + 1)) }, ?_, ?_, ?_⟩
    · simp [Instr.mapUpdate, run_underlying ht, MapKept.run_getObj_map hb, KK.check, hfk, MapKept.run_setObj_map _ hb, Result.andThen]
    · refine ⟨_, _, (MapKept.heap_set hb).1, ?_, ?_, ?_, put_nodup hnd⟩
      · simp [put, hf, hes]
      · simp only [Array.toList_push, List.map_append, List.map_cons, List.map_nil]
        refine List.pairwise_append.2 ⟨hbn, by simp, ?_⟩
        intro a ha c hc
        simp at hc; subst hc
        obtain ⟨e, he, rfl⟩ := List.mem_map.1 ha
        exact hlt e he
      · intro e he
        simp only [Array.toList_push, List.mem_append, List.mem_singleton] at he
        rcases he with he | rfl
        · have := hlt e he; omega
        · simp
    · exact ⟨rfl, rfl, rfl, by simp, fun j _ hj => (MapKept.heap_set hb).2 j (fun e => hj (by rw [e]))⟩
  | some p =>
    obtain ⟨i, u⟩ := p
    have hfk := KK.find w k l es.toList hes
    rw [hf] at hfk
    obtain ⟨_, h2⟩ := findAt_some hf
    rw [Nat.sub_zero] at h2
    obtain ⟨hi, he⟩ := List.getElem?_eq_some_iff.1 h2
    have hi' : i < es.size := by rw [← Array.length_toList, hlen]; exact hi
    have hki : es[i].key = kv k := by
      have h4 : (es.toList.map (fun e => (e.key, e.val)))[i]? = (l.map (fun p => (kv p.1, p.2)))[i]? := by rw [hes]
      simp only [List.getElem?_map, h2, Option.map_some] at h4
      have h5 : es.toList[i]? = some es[i] := by simp [hi']
      rw [h5] at h4
      simp at h4
      exact h4.1
    have hg : ((es[i]?).map (·.key)).getD (kv k) = kv k := by
      rw [Array.getElem?_eq_getElem hi']; simpa using hki
    refine ⟨{ w with heap := w.heap.setIfInBounds b (.map (es.modify i fun e => { e with key := kv k, val := v }) clock) }, ?_, ?_, ?_⟩
    · have hk1 : (Instr.keyThatStays (((es[i]?).map (·.key)).getD (kv k)) (kv k)).run P w = .ok (kv k) w := by
        rw [hg]; simp [Instr.keyThatStays, KK.bits]
      simp only [Instr.mapUpdate, Sem.run_bind, run_underlying ht, MapKept.run_getObj_map hb, KK.check, hfk, Result.andThen, hk1]
      simp [MapKept.run_setObj_map _ hb]
    · have hmod : (es.modify i fun e => { e with key := kv k, val := v }).toList = es.toList.modify i (fun e => { e with key := kv k, val := v }) := by simp
      refine ⟨_, _, (MapKept.heap_set hb).1, ?_, ?_, ?_, put_nodup hnd⟩
      · rw [hmod]
        simp only [put, hf]
        apply List.ext_getElem?
        intro j
        have h6 : (es.toList.map (fun e => (e.key, e.val)))[j]? = (l.map (fun p => (kv p.1, p.2)))[j]? := by rw [hes]
        simp only [List.getElem?_map] at h6 ⊢
        rw [List.getElem?_modify, List.getElem?_set]
        by_cases hij : i = j
        · subst hij
          simp only [if_true]
          have h5 : es.toList[i]? = some es[i] := by simp [hi']
          rw [h5]; simp [hi]
        · simp only [hij, if_false]
          rw [← h6]; cases es.toList[j]? <;> rfl
      · rw [hmod]
        have : (es.toList.modify i (fun e => { e with key := kv k, val := v })).map (·.born) = es.toList.map (·.born) := by
          apply List.ext_getElem?
          intro j
          simp only [List.getElem?_map, List.getElem?_modify]
          by_cases hij : i = j
          · simp only [hij, if_true]; cases es.toList[j]? <;> rfl
          · simp only [hij, if_false]; cases es.toList[j]? <;> rfl
        rw [this]; exact hbn
      · rw [hmod]
        intro e he
        obtain ⟨j, hj⟩ := List.mem_iff_getElem?.1 he
        rw [List.getElem?_modify] at hj
        cases h7 : es.toList[j]? with
        | none => simp [h7] at hj
        | some e0 =>
          rw [h7] at hj
          have h8 := hlt e0 (List.mem_of_getElem? h7)
          by_cases hij : i = j
          · simp [hij] at hj; subst hj; exact h8
          · simp [hij] at hj; subst hj; exact h8
    · exact ⟨rfl, rfl, rfl, by simp, fun j _ hj => (MapKept.heap_set hb).2 j (fun e => hj (by rw [e]))⟩

omit [DecidableEq K] in
theorem run_len (ht : P.underlying t = some (.map kt et)) (h : IsM kv w b l) (ty : TypeId) : (Builtin.len_ #[t] ty #[.map (some b)]).run P w = .ok (.int .i64 l.length) w := by
  obtain ⟨es, clock, hb, hes, _⟩ := h
  have hlen : es.size = l.length := by have := congrArg List.length hes; simpa using this
  rw [← hlen]
  simp [Builtin.len_, run_underlying ht, MapKept.run_getObj_map hb, goInt, Result.andThen]

end

/-- strings as keys -/
theorem string_kind {P : Program} {kt : TypeId} (hk : P.underlying kt = some .string) : KeyKind (K := ByteArray) P kt Value.string where
  find := by
    intro w k l es h
    have key : ∀ (l : List (ByteArray × Value)) (es : List MapEntry) (i : Nat), es.map (fun e => (e.key, e.val)) = l.map (fun p => (Value.string p.1, p.2)) → Instr.findNow .string (.string k) es i = some (findAt k l i) := by
      intro l
      induction l with
      | nil => intro es i h; cases es with | nil => rfl | cons e es => simp at h
      | cons p l ih =>
        intro es i h
        cases es with
        | nil => simp at h
        | cons e es =>
          simp only [List.map_cons, List.cons.injEq, Prod.mk.injEq] at h
          obtain ⟨⟨h1, h2⟩, h3⟩ := h
          simp only [Instr.findNow, h1, Instr.sameNow, findAt]
          by_cases hkp : k = p.1
          · have : (k == p.1) = true := (MapKept.bytes_beq _ _).2 hkp
            rw [this, if_pos hkp, h2]
          · have : (k == p.1) = false := by
              cases hb : (k == p.1) with
              | false => rfl
              | true => exact absurd ((MapKept.bytes_beq _ _).1 hb) hkp
            rw [this, if_neg hkp]
            exact ih es (i + 1) h3
    exact MapKept.run_findKey hk (key l es 0 h)
  check := fun w b k => by
    unfold Instr.checkKey
    simp [run_underlying hk, Result.andThen]
  bits := fun k => by
    have : (k == k) = true := (MapKept.bytes_beq _ _).2 rfl
    simp [Instr.sameBits, this]

/-- integers of one kind as keys -/
theorem int_kind {P : Program} {kt : TypeId} {q : IntKind} (hk : P.underlying kt = some (.int q)) : KeyKind (K := Int) P kt (Value.int q) where
  find := by
    intro w k l es h
    have key : ∀ (l : List (Int × Value)) (es : List MapEntry) (i : Nat), es.map (fun e => (e.key, e.val)) = l.map (fun p => (Value.int q p.1, p.2)) → Instr.findNow (.int q) (.int q k) es i = some (findAt k l i) := by
      intro l
      induction l with
      | nil => intro es i h; cases es with | nil => rfl | cons e es => simp at h
      | cons p l ih =>
        intro es i h
        cases es with
        | nil => simp at h
        | cons e es =>
          simp only [List.map_cons, List.cons.injEq, Prod.mk.injEq] at h
          obtain ⟨⟨h1, h2⟩, h3⟩ := h
          simp only [Instr.findNow, h1, Instr.sameNow, findAt, if_true]
          by_cases hkp : k = p.1
          · have : (k == p.1) = true := by simpa using hkp
            rw [this, if_pos hkp, h2]
          · have : (k == p.1) = false := by simpa using hkp
            rw [this, if_neg hkp]
            exact ih es (i + 1) h3
    exact MapKept.run_findKey hk (key l es 0 h)
  check := fun w b k => by
    unfold Instr.checkKey
    simp [run_underlying hk, Result.andThen]
  bits := fun k => by simp [Instr.sameBits]
end JM
end Go.Proofs.YtjdgfdpbiidldaaGreatDoor
