/-
  Layer 5 (sorts): how a table of names lies in memory, and what it says, in plain words. No condition.
  Layer 5 (sorts): none, New, SortName, DeclareSort over a table in memory. No condition but that the table lies there.
  Layer 5 (sorts): add and DeclareSort, whole. No condition but that the table lies there.
  Layer 27 (answers): Value of Bool, of Int, and of a sort that is not there. Conditions: High and Low are int64's; the table lies there.
  Maps keyed by structs of integers: a kind of keys. No condition.
  Layer 6 (terms): how a store lies in memory; put of a node without arguments. No condition but that the store lies there.
-/
import Derived.Test.YtjdgfdpbiidldaaGreatDoorRdM3
import Derived.Deep.DeepCutAuto
import Derived.WideKeyRuns
import Derived.Laws.StructEq
namespace Go.Proofs.YtjdgfdpbiidldaaGreatDoor
open Go.RowKit

/-- a function (a sort is one without arguments) -/
structure FunD where
  name : ByteArray
  args : List Int
  res : Int
  defd : Bool

/-- what was declared of one kind: all, those that stand, the marks -/
structure NamesD where
  all : List FunD
  stands : List (ByteArray × Nat)
  marks : List Nat

structure TabD where
  sorts : NamesD
  funs : NamesD

def NamesD.empty : NamesD := ⟨[], [], []⟩

/-- integers of a slice, wherever they lie -/
def IntsAt (e : TypeId) (w : World) (v : Value) (xs : List Int) : Prop :=
  ∃ ao cap, v = .slice ao xs.length cap ∧ (xs = [] ∨ ∃ b o cs fz, ao = some ⟨b, o, none⟩ ∧ w.heap[b]? = some (.cells cs e fz) ∧ ∀ j, j < xs.length → cs[o + j]? = some (.int .i64 (xs.getD j 0)))

theorem IntsAt.keeps {e : TypeId} {w w' : World} {v : Value} {xs : List Int} (h : IntsAt e w v xs) {ts : List TypeId} {m : Bool} (k : Keeps ts m w w') (he : e ∉ ts) : IntsAt e w' v xs := by
  obtain ⟨ao, cap, hv, hx⟩ := h
  refine ⟨ao, cap, hv, ?_⟩
  rcases hx with hx | ⟨b, o, cs, fz, ha, hb, hc⟩
  · exact .inl hx
  · exact .inr ⟨b, o, cs, fz, ha, k b _ hb (by simpa [Touches] using he), hc⟩
theorem intsAt_nil (e : TypeId) (w : World) (ao : Option Addr) (cap : Nat) : IntsAt e w (.slice ao 0 cap) [] := ⟨ao, cap, rfl, .inl rfl⟩
theorem IntsAt.cell {e : TypeId} {w : World} {ao : Option Addr} {n cap : Nat} {xs : List Int} (h : IntsAt e w (.slice ao n cap) xs) : n = xs.length ∧ (xs = [] ∨ ∃ b o, ao = some ⟨b, o, none⟩ ∧ ∀ j, j < xs.length → w.cell? ⟨b, o + j, none⟩ = some (.int .i64 (xs.getD j 0))) := by
  obtain ⟨ao', cap', hv, hx⟩ := h
  cases hv
  refine ⟨rfl, ?_⟩
  rcases hx with hx | ⟨b, o, cs, fz, ha, hb, hc⟩
  · exact .inl hx
  · exact .inr ⟨b, o, ha, fun j hj => by rw [Lib.cell_of_heap hb]; exact hc j hj⟩

/-- the cells of a function whose arguments lie behind a value -/
def funCells (p : FunD × Value) : List Value := [.string p.1.name, p.2, .int .i64 p.1.res, .bool p.1.defd]
theorem funCells_len (p : FunD × Value) : (funCells p).length = 4 := rfl

/-- a record of names: three values -/
structure IsNames (w : World) (B : Nat) (va : Value) (mb : Nat) (vm : Value) (N : NamesD) (rows : List (FunD × Value)) : Prop where
  hall : rows.map (·.1) = N.all
  row : w.ownsRow B 86 4 va rows.length (rows.flatMap funCells)
  args : ∀ p ∈ rows, IntsAt 47 w p.2 p.1.args
  stands : JM.IsM Value.string w mb (N.stands.map fun p => (p.1, .int .i64 p.2))
  marks : w.ownsRow B 3 1 vm N.marks.length (N.marks.map fun (k : Nat) => Value.int .i64 k)
  mB : B ≤ mb
  few : N.all.length ≤ 2000

/-- a table at block b -/
structure IsTab (w : World) (B b : Nat) (T : TabD) : Prop where
  ex : ∃ vs ms vsm vf mf vfm rs rf, w.heap[b]? = some (.cells #[vs, .map (some ms), vsm, vf, .map (some mf), vfm] 164 (0, 0)) ∧
    IsNames w B vs ms vsm T.sorts rs ∧ IsNames w B vf mf vfm T.funs rf ∧ ms ≠ mf ∧ (∀ g, vs.ownBlock = some g → vf.ownBlock ≠ some g) ∧ (∀ g, vsm.ownBlock = some g → vfm.ownBlock ≠ some g)
  bB : B ≤ b

theorem IsNames.keeps {w w' : World} {B : Nat} {va vm : Value} {mb : Nat} {N : NamesD} {rows : List (FunD × Value)} (h : IsNames w B va mb vm N rows) {ts : List TypeId} (k : Keeps ts false w w') (h1 : 86 ∉ ts) (h2 : 47 ∉ ts) (h3 : 3 ∉ ts) : IsNames w' B va mb vm N rows := by
  refine ⟨h.hall, ownsRow_keeps h.row k h1, fun p hp => (h.args p hp).keeps k h2, ?_, ownsRow_keeps h.marks k h3, h.mB, h.few⟩
  obtain ⟨es, clock, hb, r⟩ := h.stands
  exact ⟨es, clock, k _ _ hb (by simp [Touches]), r⟩
theorem IsTab.keeps {w w' : World} {B b : Nat} {T : TabD} (h : IsTab w B b T) {ts : List TypeId} (k : Keeps ts false w w') (h0 : 164 ∉ ts) (h1 : 86 ∉ ts) (h2 : 47 ∉ ts) (h3 : 3 ∉ ts) : IsTab w' B b T := by
  obtain ⟨⟨vs, ms, vsm, vf, mf, vfm, rs, rf, hb, hs, hf, r⟩, hB⟩ := h
  exact ⟨⟨vs, ms, vsm, vf, mf, vfm, rs, rf, k _ _ hb (by simpa [Touches] using h0), hs.keeps k h1 h2 h3, hf.keeps k h1 h2 h3, r⟩, hB⟩

/-- what 'add' does -/
def NamesD.add (N : NamesD) (f : FunD) : NamesD × Nat × Int :=
  if (JM.findAt f.name (N.stands.map fun p => (p.1, Value.int .i64 p.2)) 0).isSome then (N, 0, 8)
  else if 2000 ≤ N.all.length then (N, 0, 9)
  else (⟨N.all ++ [f], N.stands ++ [(f.name, N.all.length)], N.marks⟩, N.all.length, 0)

theorem info86 : (Tryz.prog.info? 86).map (fun i => (i.zero, i.size, i.bytes)) = some (some (.agg #[.string ⟨#[]⟩, .slice none 0 0, .int .i64 0, .bool false]), 4, 56) := by kernel_rfl

set_option maxHeartbeats 1000000 in
set_option maxRecDepth 100000 in
theorem add_there (w : World) (B b o : Nat) (cs : Array Value) (va vm : Value) (mb : Nat) (N : NamesD) (rows : List (FunD × Value)) (f : FunD) (av : Value)
    (hb : w.heap[b]? = some (.cells cs 164 (0, 0))) (hm : cs[o + 1]? = some (.map (some mb)))
    (hN : IsNames w B va mb vm N rows) (hthere : (JM.findAt f.name (N.stands.map fun p => (p.1, Value.int .i64 p.2)) 0).isSome = true) :
    Calls Tryz.prog 108 #[.pointer (some ⟨b, o, none⟩), .agg #[.string f.name, av, .int .i64 f.res, .bool f.defd]] w fun e w' => e = .returned (.tuple #[.int .i64 0, .int .i64 8]) ∧ ∃ nq, w' = (w.alloc (.cells #[.string f.name, av, .int .i64 f.res, .bool f.defd] 86)).drewN nq := by
  have hc1 : w.cell? ⟨b, o + 1, none⟩ = some (.map (some mb)) := by rw [Lib.cell_of_heap hb]; exact hm
  have hblt : b < w.heap.size := (Array.getElem?_eq_some_iff.1 hb).1
  have hS := hN.stands
  have hlk : ∀ nq, (Instr.lookup 158 (.map (some mb)) (.string f.name) true).run Tryz.prog ((w.alloc (.cells #[.string f.name, av, .int .i64 f.res, .bool f.defd] 86)).drewN nq) = .ok (.tuple #[((JM.get (N.stands.map fun p => (p.1, Value.int .i64 p.2)) f.name).getD (.int .i64 0)), .bool true]) ((w.alloc (.cells #[.string f.name, av, .int .i64 f.res, .bool f.defd] 86)).drewN nq) := by
    intro nq
    have h1 : JM.IsM Value.string ((w.alloc (.cells #[.string f.name, av, .int .i64 f.res, .bool f.defd] 86)).drewN nq) mb (N.stands.map fun p => (p.1, Value.int .i64 p.2)) := hS.same (Lib.alloc_old w _ mb hS.lt)
    have h2 := JM.run_lookup (P := Tryz.prog) (JM.string_kind Tryz.underlying9) Tryz.underlying158 h1 (z := .int .i64 0) (Tryz.zeroValue3 _) f.name true
    rw [h2]
    simp [JM.get, hthere]
  go_enter Tryz.func108, Tryz.ntmps108
  go_wp2
  go_quiet (fail)
  go_wp2
  go_ret2
  exact ⟨rfl, _, rfl⟩

theorem ownsRow_pos {w : World} {B : Nat} {e : TypeId} {sz : Nat} {v : Value} {n : Nat} {xs : List Value} (h : w.ownsRow B e sz v (n + 1) xs) : ∃ g cap, v = .slice (some ⟨g, 0, none⟩) (n + 1) cap := by
  rcases h.2 with ⟨_, h0⟩ | ⟨g, cap, cur, hv, _⟩
  · omega
  · exact ⟨g, cap, hv⟩

set_option maxHeartbeats 2000000 in
set_option maxRecDepth 100000 in
theorem add_new (w : World) (B b o : Nat) (cs : Array Value) (va vm : Value) (mb : Nat) (N : NamesD) (rows : List (FunD × Value)) (f : FunD) (av : Value)
    (hb : w.heap[b]? = some (.cells cs 164 (0, 0))) (ha : cs[o]? = some va) (hm : cs[o + 1]? = some (.map (some mb))) (hB : B ≤ b) (hBw : B ≤ w.heap.size)
    (hN : IsNames w B va mb vm N rows) (hav : IntsAt 47 w av f.args) (hthere : (JM.findAt f.name (N.stands.map fun p => (p.1, Value.int .i64 p.2)) 0).isSome = false) (hroom : N.all.length < 2000) :
    Calls Tryz.prog 108 #[.pointer (some ⟨b, o, none⟩), .agg #[.string f.name, av, .int .i64 f.res, .bool f.defd]] w fun e w' => e = .returned (.tuple #[.int .i64 N.all.length, .int .i64 0]) ∧
      ∃ va', w'.heap[b]? = some (.cells (cs.setIfInBounds o va') 164 (0, 0)) ∧ IsNames w' B va' mb vm ⟨N.all ++ [f], N.stands ++ [(f.name, N.all.length)], N.marks⟩ (rows ++ [(f, av)]) ∧
        (∀ g, va'.ownBlock = some g → va.ownBlock = some g ∨ w.heap.size ≤ g) ∧ Upd (fun k => k = b ∨ k = mb ∨ va.ownBlock = some k) w w' := by
  have hc0 : w.cell? ⟨b, o, none⟩ = some va := by rw [Lib.cell_of_heap hb]; exact ha
  have hc1 : w.cell? ⟨b, o + 1, none⟩ = some (.map (some mb)) := by rw [Lib.cell_of_heap hb]; exact hm
  have hf0 : w.frozen? ⟨b, o, none⟩ = false := Lib.frozen_of_heap hb o
  have hblt : b < w.heap.size := (Array.getElem?_eq_some_iff.1 hb).1
  have hS := hN.stands
  have hlk : ∀ nq, (Instr.lookup 158 (.map (some mb)) (.string f.name) true).run Tryz.prog ((w.alloc (.cells #[.string f.name, av, .int .i64 f.res, .bool f.defd] 86)).drewN nq) = .ok (.tuple #[((JM.get (N.stands.map fun p => (p.1, Value.int .i64 p.2)) f.name).getD (.int .i64 0)), .bool false]) ((w.alloc (.cells #[.string f.name, av, .int .i64 f.res, .bool f.defd] 86)).drewN nq) := by
    intro nq
    have h1 : JM.IsM Value.string ((w.alloc (.cells #[.string f.name, av, .int .i64 f.res, .bool f.defd] 86)).drewN nq) mb (N.stands.map fun p => (p.1, Value.int .i64 p.2)) := hS.same (Lib.alloc_old w _ mb hS.lt)
    have h2 := JM.run_lookup (P := Tryz.prog) (JM.string_kind Tryz.underlying9) Tryz.underlying158 h1 (z := .int .i64 0) (Tryz.zeroValue3 _) f.name true
    rw [h2]
    simp [JM.get, hthere]
  have hlen : rows.length = N.all.length := by rw [← hN.hall]; simp
  have Hlen := Lib.hid hlen; clear hlen
  obtain ⟨i0, hi, hz0, hz1, hz2⟩ := info_parts info86
  obtain ⟨ao, cap, rfl⟩ := ownsRow_len hN.row
  have hlt2 : ¬ (2000 : Int) ≤ (rows.length : Int) := by have := Hlen.out; omega
  go_enter Tryz.func108, Tryz.ntmps108
  go_wp2
  go_quiet (fail)
  clear hlk
  go_wp2
  generalize (JM.get (List.map (fun p => (p.fst, Value.int IntKind.i64 ↑p.snd)) N.stands) f.name).getD (Value.int IntKind.i64 0) = z6
  obtain ⟨W, hWdef⟩ : ∃ W : World, W = (w.alloc (.cells #[.string f.name, av, .int .i64 f.res, .bool f.defd] 86)).drewN nq := ⟨_, rfl⟩
  have hbel : Below w.heap.size w W := by rw [hWdef]; exact below_drewN ((Below.refl _ w).alloc (Nat.le_refl _) _) _
  have hsz : W.heap.size = w.heap.size + 1 := by rw [hWdef]; simp
  have hbox : W.heap[w.heap.size]? = some (.cells #[.string f.name, av, .int .i64 f.res, .bool f.defd] 86 (0, 0)) := by rw [hWdef]; exact heap_alloc_new w _
  rw [← hWdef]
  clear hWdef hc0 hc1 hf0
  have hb1 : W.heap[b]? = some (.cells cs 164 (0, 0)) := (hbel.block b hblt).trans hb
  have hc0 : W.cell? ⟨b, o, none⟩ = some (.slice ao rows.length cap) := by rw [Lib.cell_of_heap hb1]; exact ha
  have hc1 : W.cell? ⟨b, o + 1, none⟩ = some (.map (some mb)) := by rw [Lib.cell_of_heap hb1]; exact hm
  have hf0 : W.frozen? ⟨b, o, none⟩ = false := Lib.frozen_of_heap hb1 o
  have hx0 : W.cell? ⟨w.heap.size, 0, none⟩ = some (.string f.name) := by rw [Lib.cell_of_heap hbox]; rfl
  have hx1 : W.cell? ⟨w.heap.size, 1, none⟩ = some av := by rw [Lib.cell_of_heap hbox]; rfl
  have hx2 : W.cell? ⟨w.heap.size, 2, none⟩ = some (.int .i64 f.res) := by rw [Lib.cell_of_heap hbox]; rfl
  have hx3 : W.cell? ⟨w.heap.size, 3, none⟩ = some (.bool f.defd) := by rw [Lib.cell_of_heap hbox]; rfl
  have hown : W.ownsRow B 86 4 (.slice ao rows.length cap) rows.length (rows.flatMap funCells) := ownsRow_same hN.row (fun g hg => hbel.block g (hN.row.lt g hg).2)
  have Hav := Lib.hid hav
  obtain ⟨aav, cav, rfl, _⟩ := hav
  have hownA : (W.alloc (.cells #[.string f.name, .slice aav f.args.length cav, .int .i64 f.res, .bool f.defd] 86)).drew.ownsRow B 86 4 (.slice ao rows.length cap) rows.length (rows.flatMap funCells) := hown.alloc _
  have HownA := Lib.hid hownA; clear hownA
  have hcellsA : ∀ j u, (funCells (f, .slice aav f.args.length cav))[j]? = some u → (W.alloc (.cells #[.string f.name, .slice aav f.args.length cav, .int .i64 f.res, .bool f.defd] 86)).drew.cell? ((⟨w.heap.size + 1, 0, none⟩ : Addr).add j) = some u := by
    intro j u hj
    rw [← hsz]
    exact new_cells W (funCells (f, .slice aav f.args.length cav)) 86 j u hj
  have HcellsA := Lib.hid hcellsA; clear hcellsA
  have hone : ∀ u ∈ funCells (f, .slice aav f.args.length cav), u.oneCell' = true := by intro u hu; simp [funCells] at hu; rcases hu with rfl | rfl | rfl | rfl <;> rfl
  have Hone := Lib.hid hone; clear hone
  have hbW : b < W.heap.size := by omega
  have hB1 : B ≤ (W.alloc (.cells #[.string f.name, .slice aav f.args.length cav, .int .i64 f.res, .bool f.defd] 86)).drew.heap.size := by simp; omega
  have HB1 := Lib.hid hB1; clear hB1
  have hub : Upd (fun k => k = b ∨ k = mb ∨ (Value.slice ao rows.length cap).ownBlock = some k) w W := Upd.of_all hbel _
  go_cut [] (fun wx => ∃ g' cap', wx.heap[b]? = some (.cells (cs.setIfInBounds o (.slice (some ⟨g', 0, none⟩) (rows.length + 1) cap')) 164 (0, 0)) ∧ wx.ownsRow B 86 4 (.slice (some ⟨g', 0, none⟩) (rows.length + 1) cap') (rows.length + 1) (rows.flatMap funCells ++ funCells (f, .slice aav f.args.length cav)) ∧
      Upd (fun k => k = b ∨ (Value.slice ao rows.length cap).ownBlock = some k) W wx ∧ ((Value.slice ao rows.length cap).ownBlock = some g' ∨ W.heap.size ≤ g'))
  case first =>
    go_region_law (refine step_append_own rfl (.tmp 29) (.tmp 31) 159 rfl B 86 i0 _ 4 56 Tryz.underlying159 hi hz0 hz1 hz2 rfl (by decide) (.slice ao rows.length cap) rows.length (rows.flatMap funCells) (by simp [Act.eval]) HownA.out ⟨w.heap.size + 1, 0, none⟩ 1 1 (funCells (f, .slice aav f.args.length cav)) (by simp [Act.eval]) rfl HcellsA.out Hone.out (by have := Hlen.out; unfold maxLen; omega) (by have := Hlen.out; omega) HB1.out ?_; intro v' w' hown' hgrow hwhich; obtain ⟨g', cap', rfl⟩ := ownsRow_pos hown'; have hb2 : w'.heap[b]? = some (.cells cs 164 (0, 0)) := (hgrow.block b (by simp; omega) (fun e => by obtain ⟨c, hc⟩ := ownsRow_kind hown b _ e.symm hb1; cases hc)).trans ((Lib.alloc_old W _ b hbW).trans hb1); have hc2 : w'.cell? ⟨b, o, none⟩ = some (.slice ao rows.length cap) := by { rw [Lib.cell_of_heap hb2]; exact ha }; have hf2 : w'.frozen? ⟨b, o, none⟩ = false := Lib.frozen_of_heap hb2 o; have Hb2 := Lib.hid hb2; have Hown' := Lib.hid hown'; have Hgrow := Lib.hid hgrow; clear hb2 hown' hgrow)
    all_goals (go_wp2_with fail; go_meet)
    all_goals
      have hne : g' ≠ b := by
        intro e
        obtain ⟨c, hc⟩ := ownsRow_kind Hown'.out g' _ rfl (e ▸ Hb2.out)
        cases hc
      refine ⟨g', cap', heap_set_at Hb2.out o _, ownsRow_same Hown'.out (fun g hg => Below.heap_setCell _ _ _ _ (by simp [Value.ownBlock] at hg; subst hg; exact hne)), (((Upd.refl (fun k => k = b ∨ (Value.slice ao rows.length cap).ownBlock = some k) W).alloc _).drew.grown Hgrow.out (fun k hk _ => Or.inr hk)).setCell (p := ⟨b, o, none⟩) (fun _ => Or.inl rfl) _, ?_⟩
      rcases hwhich g' rfl with h | h
      · exact .inl h
      · exact .inr (by simp at h; omega)
  case rest =>
    obtain ⟨g', cap', hb2, hown2, hupd2, hw2⟩ := hcut
    have hrow : ∀ k, (Value.slice ao rows.length cap).ownBlock = some k → k < w.heap.size := fun k hk => (hN.row.lt k hk).2
    have hbx : wc.heap[w.heap.size]? = some (.cells #[.string f.name, .slice aav f.args.length cav, .int .i64 f.res, .bool f.defd] 86 (0, 0)) := by
      rw [hupd2.block _ (by omega) (by rintro (e | e); · omega
                                       · have := hrow _ e; omega)]
      exact hbox
    have ho : o < cs.size := (Array.getElem?_eq_some_iff.1 ha).1
    have d0 : wc.cell? ⟨b, o, none⟩ = some (.slice (some ⟨g', 0, none⟩) (rows.length + 1) cap') := by rw [Lib.cell_of_heap hb2]; simp [ho]
    have d1 : wc.cell? ⟨b, o + 1, none⟩ = some (.map (some mb)) := by rw [Lib.cell_of_heap hb2, Array.getElem?_setIfInBounds, if_neg (by omega)]; exact hm
    have dx0 : wc.cell? ⟨w.heap.size, 0, none⟩ = some (.string f.name) := by rw [Lib.cell_of_heap hbx]; rfl
    have hmne : ∀ k, (Value.slice ao rows.length cap).ownBlock = some k → mb ≠ k := by
      intro k hk e
      subst e
      obtain ⟨es, clock, hmm, _⟩ := hS
      obtain ⟨c, hc⟩ := ownsRow_kind hN.row mb _ hk hmm
      cases hc
    have hmb : mb ≠ b := by
      intro e
      subst e
      obtain ⟨es, clock, hmm, _⟩ := hS
      rw [hmm] at hb; cases hb
    have hS2 : JM.IsM Value.string wc.drew mb (N.stands.map fun p => (p.1, Value.int .i64 p.2)) := by
      refine hS.same ?_
      show wc.heap[mb]? = w.heap[mb]?
      rw [hupd2.block mb (by have := hS.lt; omega) (by rintro (e | e); · exact hmb e
                                                       · exact hmne _ e rfl), hbel.block mb hS.lt]
    obtain ⟨w3, hup, hS3, hg3⟩ := JM.run_update (P := Tryz.prog) (JM.string_kind Tryz.underlying9) Tryz.underlying158 hS2 f.name (.int .i64 rows.length)
    have hwclt : b < wc.drew.heap.size := (Array.getElem?_eq_some_iff.1 hb2).1
    have hb3 : w3.heap[b]? = some (.cells (cs.setIfInBounds o (.slice (some ⟨g', 0, none⟩) (rows.length + 1) cap')) 164 (0, 0)) := (hg3.block b hwclt (by simpa using fun e => hmb e.symm)).trans hb2
    have d3 : w3.cell? ⟨b, o, none⟩ = some (.slice (some ⟨g', 0, none⟩) (rows.length + 1) cap') := by rw [Lib.cell_of_heap hb3]; simp [ho]
    have HS3 := Lib.hid hS3
    have Hg3 := Lib.hid hg3
    have Hb3 := Lib.hid hb3
    clear hS3 hg3 hS2 hS hb3
    go_wp2
    go_region
    go_wp2
    go_ret2
    have hlen := Hlen.out
    have hU : Upd (fun k => k = b ∨ k = mb ∨ (Value.slice ao rows.length cap).ownBlock = some k) w w3 := by
      refine ((hub.then hupd2 ?_).drew).grown Hg3.out ?_
      · rintro i hi (h | h)
        · exact .inl h
        · exact .inr (.inr h)
      · intro k hk _
        exact .inr (.inl (Option.some.inj hk).symm)
    have hKp : Keeps [164, 86] true w w3 := hU.keeps (by
      rintro k x (rfl | rfl | h) hx
      · rw [hb] at hx; cases hx; simp [Touches]
      · obtain ⟨es, clock, hmm, _⟩ := hN.stands
        rw [hmm] at hx; cases hx; simp [Touches]
      · obtain ⟨c, rfl⟩ := ownsRow_kind hN.row k x h hx
        simp [Touches])
    refine ⟨by rw [hlen]; rfl, .slice (some ⟨g', 0, none⟩) (rows.length + 1) cap', Hb3.out, ⟨?_, ?_, ?_, ?_, ?_, hN.mB, ?_⟩, ?_, hU⟩
    · simp [hN.hall]
    · have h1 : (rows ++ [(f, Value.slice aav f.args.length cav)]).length = rows.length + 1 := by simp
      have h2 : (rows ++ [(f, Value.slice aav f.args.length cav)]).flatMap funCells = rows.flatMap funCells ++ funCells (f, .slice aav f.args.length cav) := by simp
      rw [h1, h2]
      refine ownsRow_same hown2 (fun g hg => ?_)
      have hgl := (hown2.lt g hg).2
      refine Hg3.out.block g hgl ?_
      intro e
      have e2 : g = mb := Option.some.inj e
      simp [Value.ownBlock] at hg
      subst hg
      rcases hw2 with h | h
      · exact hmne _ h e2.symm
      · have := hN.stands.lt; omega
    · intro p hp
      rcases List.mem_append.1 hp with hp | hp
      · exact (hN.args p hp).keeps hKp (by decide)
      · simp at hp; subst hp
        exact Hav.out.keeps hKp (by decide)
    · have h3 := HS3.out
      have h4 : JM.findAt f.name (N.stands.map fun p => (p.1, Value.int .i64 p.2)) 0 = none := by simpa using hthere
      rw [JM.put, h4] at h3
      simpa [hlen] using h3
    · exact ownsRow_keeps hN.marks hKp (by decide)
    · simp; omega
    · intro g hg
      simp [Value.ownBlock] at hg
      subst hg
      rcases hw2 with h | h
      · exact .inl h
      · exact .inr (by omega)
end Go.Proofs.YtjdgfdpbiidldaaGreatDoor

namespace Go.Proofs.YtjdgfdpbiidldaaGreatDoor
open Go.RowKit

theorem none_nil (w : World) : Calls Tryz.prog 101 #[.pointer none] w fun e w' => e = .returned (.bool true) ∧ w = w' := by
  go_enter Tryz.func101, Tryz.ntmps101
  go_wp2
  go_ret
  exact ⟨rfl, rfl⟩

theorem none_at (b m : Nat) (w : World) (hc : w.cell? ⟨b, 1, none⟩ = some (.map (some m))) : Calls Tryz.prog 101 #[.pointer (some ⟨b, 0, none⟩)] w fun e w' => e = .returned (.bool false) ∧ w = w' := by
  have hmn := run_eql_map_nil (P := Tryz.prog) w 158 9 3 (some m) Tryz.underlying158
  go_enter Tryz.func101, Tryz.ntmps101
  go_wp2
  go_ret
  exact ⟨rfl, rfl⟩

theorem IsTab.none {w : World} {B b : Nat} {T : TabD} (h : IsTab w B b T) : Calls Tryz.prog 101 #[.pointer (some ⟨b, 0, Option.none⟩)] w fun e w' => e = .returned (.bool false) ∧ w = w' := by
  obtain ⟨⟨vs, ms, vsm, vf, mf, vfm, rs, rf, hb, _⟩, _⟩ := h
  exact none_at b ms w (by rw [Lib.cell_of_heap hb]; rfl)

theorem new_any (w : World) : Calls Tryz.prog 23 #[] w fun e w' => e = .returned (.pointer (some ⟨w.heap.size + 2, 0, none⟩)) ∧ IsTab w' w.heap.size (w.heap.size + 2) ⟨.empty, .empty⟩ ∧ Below w.heap.size w w' ∧ w'.heap.size = w.heap.size + 3 := by
  have hmm := @run_makeMap Tryz.prog
  go_enter Tryz.func23, Tryz.ntmps23
  go_wp2
  go_ret
  refine ⟨rfl, ⟨⟨.slice none 0 0, w.heap.size, .slice none 0 0, .slice none 0 0, w.heap.size + 1, .slice none 0 0, [], [], ?_, ⟨rfl, World.ownsRow_nil _ _ _ _, by simp, ?_, World.ownsRow_nil _ _ _ _, Nat.le_refl _, by simp [NamesD.empty]⟩, ⟨rfl, World.ownsRow_nil _ _ _ _, by simp, ?_, World.ownsRow_nil _ _ _ _, by omega, by simp [NamesD.empty]⟩, by omega, by simp [Value.ownBlock], by simp [Value.ownBlock]⟩, by omega⟩, ?_, by simp⟩
  · have := heap_alloc_new ((w.alloc (Obj.map #[] 0)).alloc (Obj.map #[] 0)) (Obj.cells #[Value.slice none 0 0, Value.map (some w.heap.size), Value.slice none 0 0, Value.slice none 0 0, Value.map (some (w.heap.size + 1)), Value.slice none 0 0] 164)
    simpa using this
  · refine (JM.isM_new (kv := Value.string) w).same ?_
    rw [Lib.alloc_old _ _ _ (by simp; omega), Lib.alloc_old _ _ _ (by simp)]
  · have h1 := JM.isM_new (kv := Value.string) (w.alloc (Obj.map #[] 0))
    simp only [World.size_alloc] at h1
    refine h1.same ?_
    rw [Lib.alloc_old _ _ _ (by simp)]
  · exact (((Below.refl _ w).alloc (Nat.le_refl _) _).alloc (by simp) _).alloc (by simp; omega) _

/-- a sort's name -/
def TabD.sortName (T : TabD) (s : Int) : ByteArray × Int :=
  if s = 0 then (⟨#[66, 111, 111, 108]⟩, 0) else if s = 1 then (⟨#[73, 110, 116]⟩, 0)
  else if s < 2 then (⟨#[]⟩, 7) else match T.sorts.all[(s - 2).toNat]? with | some f => (f.name, 0) | none => (⟨#[]⟩, 7)

set_option maxHeartbeats 1000000 in
set_option maxRecDepth 100000 in
theorem sortName_nil (s : Int) (w : World) : Calls Tryz.prog 60 #[.pointer none, .int .i64 s] w fun e w' => e = .returned (.tuple #[.string ⟨#[]⟩, .int .i64 1]) ∧ w = w' := by
  go_enter Tryz.func60, Tryz.ntmps60
  go_wp2_with (first | (go_at_call 101; refine (none_nil _).mono ?_; rintro e w' ⟨rfl, rfl⟩))
  go_ret2
  exact ⟨rfl, rfl⟩

set_option maxHeartbeats 1000000 in
set_option maxRecDepth 100000 in
theorem sortName_any (B b : Nat) (T : TabD) (s : Int) (w : World) (h : IsTab w B b T) (hs1 : s ≤ 9223372036854775807) :
    Calls Tryz.prog 60 #[.pointer (some ⟨b, 0, none⟩), .int .i64 s] w fun e w' => e = .returned (.tuple #[.string (T.sortName s).1, .int .i64 (T.sortName s).2]) ∧ w = w' := by
  have hn := h.none
  obtain ⟨⟨vs, ms, vsm, vf, mf, vfm, rs, rf, hb, hS, _⟩, _⟩ := h
  obtain ⟨ao, cap, rfl⟩ := ownsRow_len hS.row
  have hc0 : w.cell? ⟨b, 0, none⟩ = some (.slice ao rs.length cap) := by rw [Lib.cell_of_heap hb]; rfl
  have Hn := Lib.hid hn; clear hn
  have hlen : rs.length = T.sorts.all.length := by rw [← hS.hall]; simp
  have Hlen := Lib.hid hlen; clear hlen
  have hfew := hS.few
  have Hs1 := Lib.hid hs1
  clear hs1
  by_cases h0 : s = 0
  · subst h0
    go_enter Tryz.func60, Tryz.ntmps60
    go_wp2_with (first | (go_at_call 101; refine Hn.out.mono ?_; rintro e w' ⟨rfl, rfl⟩))
    go_ret2
    exact ⟨by simp [TabD.sortName], rfl⟩
  by_cases h1 : s = 1
  · subst h1
    go_enter Tryz.func60, Tryz.ntmps60
    go_wp2_with (first | (go_at_call 101; refine Hn.out.mono ?_; rintro e w' ⟨rfl, rfl⟩))
    go_ret2
    exact ⟨by simp [TabD.sortName], rfl⟩
  by_cases h2 : s < 2
  · go_enter Tryz.func60, Tryz.ntmps60
    go_wp2_with (first | (go_at_call 101; refine Hn.out.mono ?_; rintro e w' ⟨rfl, rfl⟩))
    go_ret2
    exact ⟨by simp [TabD.sortName, h0, h1, h2], rfl⟩
  have Hs : Hid (T.sortName s = match T.sorts.all[(s - 2).toNat]? with | some f => (f.name, 0) | none => (⟨#[]⟩, 7)) := by simp [Hid, TabD.sortName, h0, h1, h2]
  have q0 : (s == 0) = false := by simpa using h0
  have q1 : (s == 1) = false := by simpa using h1
  have q2 : decide (s < 2) = false := by simpa using h2
  have hs2 : 2 ≤ s := by omega
  by_cases h3 : (s - 2).toNat < rs.length
  · obtain ⟨p, hp⟩ : ∃ p, rs[(s - 2).toNat]? = some p := ⟨rs[(s - 2).toNat], by simp [h3]⟩
    have hall : T.sorts.all[(s - 2).toNat]? = some p.1 := by rw [← hS.hall]; simp [hp]
    have hcell : ∃ g, ao = some ⟨g, 0, none⟩ ∧ w.cell? ⟨g, (s - 2).toNat * 4, none⟩ = some (.string p.1.name) := by
      rcases ownsRow_shape hS.row with ⟨_, h0⟩ | ⟨g, cap', cur, hv, _⟩
      · omega
      · cases hv
        refine ⟨g, rfl, ?_⟩
        have := hS.row.cellAt ((s - 2).toNat * 4) (by omega)
        rw [this]
        have h4 := flatMap_at funCells 4 funCells_len rs (s - 2).toNat 0 p hp (by omega)
        rw [Nat.add_zero] at h4
        rw [h4]; rfl
    obtain ⟨g, rfl, hcg⟩ := hcell
    have hk : s ≤ 2002 := by have := Hlen.out; omega
    have q3 : decide ((rs.length : Int) ≤ s - 2) = false := by simp; omega
    have q4 : s - 2 < (rs.length : Int) := by omega
    rw [Hs.out, hall]
    clear hall hp hb hS h0 h1 h2 h3 Hs
    go_enter Tryz.func60, Tryz.ntmps60
    go_wp2_with (first | (go_at_call 101; refine Hn.out.mono ?_; rintro e w' ⟨rfl, rfl⟩))
    go_ret2
    exact ⟨rfl, rfl⟩
  · have hall : T.sorts.all[(s - 2).toNat]? = none := by
      rw [← hS.hall]; simp; omega
    have q3 : decide ((rs.length : Int) ≤ s - 2) = true := by simp; omega
    have hw : wrap64 (s - 2) = s - 2 := by have := Hs1.out; unfold wrap64; omega
    rw [Hs.out, hall]
    clear hall hb hS h0 h1 h2 h3 Hs
    go_enter Tryz.func60, Tryz.ntmps60
    go_wp2_with (first | (go_at_call 101; refine Hn.out.mono ?_; rintro e w' ⟨rfl, rfl⟩))
    go_ret2
    exact ⟨rfl, rfl⟩
end Go.Proofs.YtjdgfdpbiidldaaGreatDoor

namespace Go.Proofs.YtjdgfdpbiidldaaGreatDoor
open Go.RowKit

set_option maxHeartbeats 1000000 in
set_option maxRecDepth 100000 in
theorem add_full (w : World) (B b o : Nat) (cs : Array Value) (va vm : Value) (mb : Nat) (N : NamesD) (rows : List (FunD × Value)) (f : FunD) (av : Value)
    (hb : w.heap[b]? = some (.cells cs 164 (0, 0))) (ha : cs[o]? = some va) (hm : cs[o + 1]? = some (.map (some mb)))
    (hN : IsNames w B va mb vm N rows) (hthere : (JM.findAt f.name (N.stands.map fun p => (p.1, Value.int .i64 p.2)) 0).isSome = false) (hfull : 2000 ≤ N.all.length) :
    Calls Tryz.prog 108 #[.pointer (some ⟨b, o, none⟩), .agg #[.string f.name, av, .int .i64 f.res, .bool f.defd]] w fun e w' => e = .returned (.tuple #[.int .i64 0, .int .i64 9]) ∧ ∃ nq, w' = (w.alloc (.cells #[.string f.name, av, .int .i64 f.res, .bool f.defd] 86)).drewN nq := by
  have hc0 : w.cell? ⟨b, o, none⟩ = some va := by rw [Lib.cell_of_heap hb]; exact ha
  have hc1 : w.cell? ⟨b, o + 1, none⟩ = some (.map (some mb)) := by rw [Lib.cell_of_heap hb]; exact hm
  have hblt : b < w.heap.size := (Array.getElem?_eq_some_iff.1 hb).1
  have hS := hN.stands
  have hlk : ∀ nq, (Instr.lookup 158 (.map (some mb)) (.string f.name) true).run Tryz.prog ((w.alloc (.cells #[.string f.name, av, .int .i64 f.res, .bool f.defd] 86)).drewN nq) = .ok (.tuple #[((JM.get (N.stands.map fun p => (p.1, Value.int .i64 p.2)) f.name).getD (.int .i64 0)), .bool false]) ((w.alloc (.cells #[.string f.name, av, .int .i64 f.res, .bool f.defd] 86)).drewN nq) := by
    intro nq
    have h1 : JM.IsM Value.string ((w.alloc (.cells #[.string f.name, av, .int .i64 f.res, .bool f.defd] 86)).drewN nq) mb (N.stands.map fun p => (p.1, Value.int .i64 p.2)) := hS.same (Lib.alloc_old w _ mb hS.lt)
    have h2 := JM.run_lookup (P := Tryz.prog) (JM.string_kind Tryz.underlying9) Tryz.underlying158 h1 (z := .int .i64 0) (Tryz.zeroValue3 _) f.name true
    rw [h2]
    simp [JM.get, hthere]
  have hlen : rows.length = N.all.length := by rw [← hN.hall]; simp
  obtain ⟨ao, cap, rfl⟩ := ownsRow_len hN.row
  have hge : (2000 : Int) ≤ (rows.length : Int) := by omega
  clear hlen hfull hthere
  go_enter Tryz.func108, Tryz.ntmps108
  go_wp2
  go_quiet (fail)
  go_wp2
  go_ret2
  exact ⟨rfl, _, rfl⟩

theorem Below.keeps_all {w w' : World} (h : Below w.heap.size w w') (ts : List TypeId) (m : Bool) : Keeps ts m w w' :=
  fun k _ hk _ => (h.block k (Array.getElem?_eq_some_iff.1 hk).1).trans hk

/-- 'add', whole -/
theorem add_any (w : World) (B b o : Nat) (cs : Array Value) (va vm : Value) (mb : Nat) (N : NamesD) (rows : List (FunD × Value)) (f : FunD) (av : Value)
    (hb : w.heap[b]? = some (.cells cs 164 (0, 0))) (ha : cs[o]? = some va) (hm : cs[o + 1]? = some (.map (some mb))) (hB : B ≤ b) (hBw : B ≤ w.heap.size)
    (hN : IsNames w B va mb vm N rows) (hav : IntsAt 47 w av f.args) :
    Calls Tryz.prog 108 #[.pointer (some ⟨b, o, none⟩), .agg #[.string f.name, av, .int .i64 f.res, .bool f.defd]] w fun e w' =>
      e = .returned (.tuple #[.int .i64 (N.add f).2.1, .int .i64 (N.add f).2.2]) ∧
      ∃ va' rows', w'.heap[b]? = some (.cells (cs.setIfInBounds o va') 164 (0, 0)) ∧ IsNames w' B va' mb vm (N.add f).1 rows' ∧
        (∀ g, va'.ownBlock = some g → va.ownBlock = some g ∨ w.heap.size ≤ g) ∧ Upd (fun k => k = b ∨ k = mb ∨ va.ownBlock = some k) w w' := by
  have old : ∀ (w' : World), Below w.heap.size w w' → ∃ va' rows', w'.heap[b]? = some (.cells (cs.setIfInBounds o va') 164 (0, 0)) ∧ IsNames w' B va' mb vm N rows' ∧
        (∀ g, va'.ownBlock = some g → va.ownBlock = some g ∨ w.heap.size ≤ g) ∧ Upd (fun k => k = b ∨ k = mb ∨ va.ownBlock = some k) w w' := by
    intro w' hbel
    have hblt : b < w.heap.size := (Array.getElem?_eq_some_iff.1 hb).1
    refine ⟨va, rows, ?_, hN.keeps (ts := []) (Below.keeps_all hbel [] false) (by simp) (by simp) (by simp), fun g hg => .inl hg, Upd.of_all hbel _⟩
    rw [hbel.block b hblt, hb]
    congr 2
    obtain ⟨hi, he⟩ := Array.getElem?_eq_some_iff.1 ha
    apply Array.ext_getElem?
    intro j
    rw [Array.getElem?_setIfInBounds]
    split
    · rename_i e; subst e; simp [hi, he]
    · rfl
  cases ht : (JM.findAt f.name (N.stands.map fun p => (p.1, Value.int .i64 p.2)) 0).isSome with
  | true =>
    have e1 : N.add f = (N, 0, 8) := by simp [NamesD.add, ht]
    rw [e1]
    refine (add_there w B b o cs va vm mb N rows f av hb hm hN ht).mono ?_
    rintro e w' ⟨rfl, nq, rfl⟩
    exact ⟨rfl, old _ (below_drewN ((Below.refl _ w).alloc (Nat.le_refl _) _) _)⟩
  | false =>
    by_cases hr : 2000 ≤ N.all.length
    · have e1 : N.add f = (N, 0, 9) := by simp [NamesD.add, ht, hr]
      rw [e1]
      refine (add_full w B b o cs va vm mb N rows f av hb ha hm hN ht hr).mono ?_
      rintro e w' ⟨rfl, nq, rfl⟩
      exact ⟨rfl, old _ (below_drewN ((Below.refl _ w).alloc (Nat.le_refl _) _) _)⟩
    · have e1 : N.add f = (⟨N.all ++ [f], N.stands ++ [(f.name, N.all.length)], N.marks⟩, N.all.length, 0) := by simp [NamesD.add, ht, hr]
      rw [e1]
      refine (add_new w B b o cs va vm mb N rows f av hb ha hm hB hBw hN hav ht (by omega)).mono ?_
      rintro e w' ⟨rfl, va', h1, h2, h3, h4⟩
      exact ⟨rfl, va', _, h1, h2, h3, h4⟩

def boolInt : List ByteArray := [⟨#[66, 111, 111, 108]⟩, ⟨#[73, 110, 116]⟩]

def TabD.declSort (T : TabD) (name : ByteArray) : TabD × Int × Int :=
  if mayB name boolInt then
    if (T.sorts.add ⟨name, [], 0, false⟩).2.2 = 0 then (⟨(T.sorts.add ⟨name, [], 0, false⟩).1, T.funs⟩, (T.sorts.add ⟨name, [], 0, false⟩).2.1 + 2, 0)
    else (⟨(T.sorts.add ⟨name, [], 0, false⟩).1, T.funs⟩, 0, (T.sorts.add ⟨name, [], 0, false⟩).2.2)
  else (T, 0, 50)

theorem add_le (N : NamesD) (f : FunD) : (N.add f).2.1 ≤ N.all.length := by
  unfold NamesD.add
  split
  · simp
  · split <;> simp

/-- a sort added: the table behind it -/
theorem tab_added {w1 w2 : World} {B b : Nat} {T : TabD} {vs vsm vf vfm : Value} {ms mf : Nat} {rs rf : List (FunD × Value)} {N' : NamesD}
    (hb : w1.heap[b]? = some (.cells #[vs, .map (some ms), vsm, vf, .map (some mf), vfm] 164 (0, 0))) (hS : IsNames w1 B vs ms vsm T.sorts rs) (hF : IsNames w1 B vf mf vfm T.funs rf) (hmm : ms ≠ mf)
    (hvv : ∀ g, vs.ownBlock = some g → vf.ownBlock ≠ some g) (hkk : ∀ g, vsm.ownBlock = some g → vfm.ownBlock ≠ some g) (hBb : B ≤ b) (hsz : B ≤ w1.heap.size)
    (hpost : ∃ va' rows', w2.heap[b]? = some (.cells ((#[vs, .map (some ms), vsm, vf, .map (some mf), vfm] : Array Value).setIfInBounds 0 va') 164 (0, 0)) ∧ IsNames w2 B va' ms vsm N' rows' ∧
        (∀ g, va'.ownBlock = some g → vs.ownBlock = some g ∨ w1.heap.size ≤ g) ∧ Upd (fun k => k = b ∨ k = ms ∨ vs.ownBlock = some k) w1 w2) :
    IsTab w2 B b ⟨N', T.funs⟩ ∧ Keeps [164, 86] true w1 w2 ∧ Below B w1 w2 := by
  obtain ⟨va', rows', hb3, hN3, hw3, hU⟩ := hpost
  have hKp : Keeps [164, 86] true w1 w2 := hU.keeps (by
    rintro k x (rfl | rfl | hx) hh
    · rw [hb] at hh; cases hh; simp [Touches]
    · obtain ⟨es, clock, hq, _⟩ := hS.stands
      rw [hq] at hh; cases hh; simp [Touches]
    · obtain ⟨c, rfl⟩ := ownsRow_kind hS.row k x hx hh
      simp [Touches])
  have hBl : Below B w1 w2 := hU.below hsz (by
    rintro k hk (rfl | rfl | hx)
    · omega
    · have := hS.mB; omega
    · have := (hS.row.lt k hx).1; omega)
  have same : ∀ k, k < w1.heap.size → k ≠ b → k ≠ ms → vs.ownBlock ≠ some k → w2.heap[k]? = w1.heap[k]? := fun k hk h1 h2 h3 => hU.block k hk (fun e => e.elim h1 (fun e => e.elim h2 h3))
  refine ⟨⟨⟨va', ms, vsm, vf, mf, vfm, rows', rf, hb3, hN3, ⟨hF.hall, ?_, ?_, ?_, ?_, hF.mB, hF.few⟩, hmm, ?_, hkk⟩, hBb⟩, hKp, hBl⟩
  · refine ownsRow_same hF.row (fun g hg => same g (hF.row.lt g hg).2 ?_ ?_ (fun e => hvv g e hg))
    · rintro rfl
      obtain ⟨c, hc⟩ := ownsRow_kind hF.row _ _ hg hb
      cases hc
    · rintro rfl
      obtain ⟨es, clock, hq, _⟩ := hS.stands
      obtain ⟨c, hc⟩ := ownsRow_kind hF.row _ _ hg hq
      cases hc
  · exact fun p hp => (hF.args p hp).keeps hKp (by decide)
  · refine hF.stands.same (same mf hF.stands.lt ?_ (fun e => hmm e.symm) ?_)
    · rintro rfl
      obtain ⟨es, clock, hq, _⟩ := hF.stands
      rw [hq] at hb; cases hb
    · intro e
      obtain ⟨es, clock, hq, _⟩ := hF.stands
      obtain ⟨c, hc⟩ := ownsRow_kind hS.row _ _ e hq
      cases hc
  · exact ownsRow_keeps hF.marks hKp (by decide)
  · intro g hg hf
    rcases hw3 g hg with h4 | h4
    · exact hvv g h4 hf
    · have := (hF.row.lt g hf).2; omega

set_option maxHeartbeats 2000000 in
set_option maxRecDepth 100000 in
theorem declSort_any (B b : Nat) (T : TabD) (name : ByteArray) (w : World) (h : IsTab w B b T) (hBw : B ≤ w.heap.size) :
    Calls Tryz.prog 55 #[.pointer (some ⟨b, 0, none⟩), .string name] w fun e w' => e = .returned (.tuple #[.int .i64 (T.declSort name).2.1, .int .i64 (T.declSort name).2.2]) ∧
      IsTab w' B b (T.declSort name).1 ∧ Keeps [164, 86] true w w' ∧ Below B w w' := by
  have hn := h.none
  have Hn := Lib.hid hn; clear hn
  have hown : (w.alloc (.cells #[.string ⟨#[66, 111, 111, 108]⟩, .string ⟨#[73, 110, 116]⟩] 9)).ownsRow w.heap.size 9 1 (.slice (some ⟨w.heap.size, 0, none⟩) boolInt.length boolInt.length) boolInt.length (boolInt.map Value.string) :=
    World.ownsRow_lit w #[.string ⟨#[66, 111, 111, 108]⟩, .string ⟨#[73, 110, 116]⟩] 2 (Nat.le_refl _) (by decide) rfl
  have hmay := may_any w.heap.size name w.heap.size boolInt _ hown (by decide) (by simp)
  have hb0 : Below w.heap.size w (w.alloc (.cells #[.string ⟨#[66, 111, 111, 108]⟩, .string ⟨#[73, 110, 116]⟩] 9)) := (Below.refl _ w).alloc (Nat.le_refl _) _
  cases hmb : mayB name boolInt with
  | false =>
    rw [hmb] at hmay
    have Hmay := Lib.hid hmay; clear hmay hown
    have e1 : T.declSort name = (T, 0, 50) := by simp [TabD.declSort, hmb]
    rw [e1]
    clear hmb e1
    go_enter Tryz.func55, Tryz.ntmps55
    go_wp2_with (first | (go_at_call 101; refine Hn.out.mono ?_; rintro e w' ⟨rfl, rfl⟩) | (go_at_call 103; refine Hmay.out.mono ?_; rintro e w1 ⟨rfl, hb1⟩))
    go_ret2
    have hb2 := hb0.trans hb1
    exact ⟨rfl, h.keeps (ts := []) (Below.keeps_all hb2 [] false) (by simp) (by simp) (by simp) (by simp), Below.keeps_all hb2 _ _, hb2.mono hBw⟩
  | true =>
    rw [hmb] at hmay
    have Hmay := Lib.hid hmay; clear hmay hown
    have walk : ∀ (N' : NamesD) (r : Nat) (er : Int), T.sorts.add ⟨name, [], 0, false⟩ = (N', r, er) → ∀ (x : Int) (er2 : Int), (er = 0 → x = (r : Int) + 2 ∧ er2 = 0) → (er ≠ 0 → x = 0 ∧ er2 = er) →
        Calls Tryz.prog 55 #[.pointer (some ⟨b, 0, none⟩), .string name] w fun e w' => e = .returned (.tuple #[.int .i64 x, .int .i64 er2]) ∧ IsTab w' B b ⟨N', T.funs⟩ ∧ Keeps [164, 86] true w w' ∧ Below B w w' := by
      intro N' r er hR x er2 hx1 hx2
      have hfew : r ≤ 2000 := by
        obtain ⟨⟨vs, ms, vsm, vf, mf, vfm, rs, rf, hb, hS, hF, hmm, hvv, hkk⟩, hBb⟩ := h
        have := add_le T.sorts ⟨name, [], 0, false⟩
        rw [hR] at this
        exact Nat.le_trans this hS.few
      have HR := Lib.hid hR
      have after : ∀ w1, Below w.heap.size w w1 → Calls Tryz.prog 108 #[.pointer (some ⟨b, 0, none⟩), .agg #[.string name, .slice none 0 0, .int .i64 0, .bool false]] w1 fun e w' =>
          e = .returned (.tuple #[.int .i64 r, .int .i64 er]) ∧ Hid (IsTab w' B b ⟨N', T.funs⟩ ∧ Keeps [164, 86] true w w' ∧ Below B w w') := by
        intro w1 hb2
        have h1 : IsTab w1 B b T := h.keeps (ts := []) (Below.keeps_all hb2 [] false) (by simp) (by simp) (by simp) (by simp)
        obtain ⟨⟨vs, ms, vsm, vf, mf, vfm, rs, rf, hb, hS, hF, hmm, hvv, hkk⟩, hBb⟩ := h1
        have hsz : B ≤ w1.heap.size := by have := hb2.size; omega
        refine (add_any w1 B b 0 _ vs vsm ms T.sorts rs ⟨name, [], 0, false⟩ (.slice none 0 0) hb rfl rfl hBb hsz hS (intsAt_nil _ _ _ _)).mono ?_
        rintro e w2 ⟨rfl, hpost⟩
        rw [HR.out] at hpost ⊢
        obtain ⟨f1, f2, f3⟩ := tab_added hb hS hF hmm hvv hkk hBb hsz hpost
        exact ⟨rfl, f1, (Below.keeps_all hb2 _ _).trans f2, (hb2.mono hBw).trans f3⟩
      have After := Lib.hid after
      clear after hR
      by_cases her : er = 0
      · subst her
        obtain ⟨rfl, rfl⟩ := hx1 rfl
        clear hx1 hx2
        go_enter Tryz.func55, Tryz.ntmps55
        go_wp2_with (first | (go_at_call 101; refine Hn.out.mono ?_; rintro e w' ⟨rfl, rfl⟩) | (go_at_call 103; refine Hmay.out.mono ?_; rintro e w1 ⟨rfl, hb1⟩; have hb2 := hb0.trans hb1; clear hb1) | (go_at_call 108; refine (After.out _ (by assumption)).mono ?_; rintro e w2 ⟨rfl, hfin⟩))
        go_ret2
        exact ⟨rfl, hfin⟩
      · have her2 : (er == 0) = false := by simpa using her
        obtain ⟨rfl, rfl⟩ := hx2 her
        clear hx1 hx2
        go_enter Tryz.func55, Tryz.ntmps55
        go_wp2_with (first | (go_at_call 101; refine Hn.out.mono ?_; rintro e w' ⟨rfl, rfl⟩) | (go_at_call 103; refine Hmay.out.mono ?_; rintro e w1 ⟨rfl, hb1⟩; have hb2 := hb0.trans hb1; clear hb1) | (go_at_call 108; refine (After.out _ (by assumption)).mono ?_; rintro e w2 ⟨rfl, hfin⟩))
        go_ret2
        exact ⟨rfl, hfin⟩
    cases hR : T.sorts.add ⟨name, [], 0, false⟩ with
    | mk N' q =>
      obtain ⟨r, er⟩ := q
      by_cases her : er = 0
      · have e1 : T.declSort name = (⟨N', T.funs⟩, (r : Int) + 2, 0) := by simp [TabD.declSort, hmb, hR, her]
        rw [e1]
        exact walk N' r er hR _ _ (fun _ => ⟨rfl, rfl⟩) (fun h => absurd her h)
      · have e1 : T.declSort name = (⟨N', T.funs⟩, 0, er) := by simp [TabD.declSort, hmb, hR, her]
        rw [e1]
        exact walk N' r er hR _ _ (fun h => absurd h her) (fun _ => ⟨rfl, rfl⟩)
end Go.Proofs.YtjdgfdpbiidldaaGreatDoor

namespace Go.Proofs.YtjdgfdpbiidldaaGreatDoor
open Go.RowKit

theorem write_any (hi lo : Int) (w : World) (h1 : -9223372036854775808 ≤ hi ∧ hi ≤ 9223372036854775807) (h2 : -9223372036854775808 ≤ lo ∧ lo ≤ 9223372036854775807) :
    Calls Tryz.prog 65 #[.agg #[.int .i64 hi, .int .i64 lo]] w fun e w' => e = .returned (.string ⟨(Lib.itoa (numV hi lo)).toArray⟩) ∧ Below w.heap.size w w' := by
  by_cases h : numV hi lo < 0
  · exact write_neg hi lo w h1 h2 h
  · exact write_pos hi lo w h1 h2 (by omega)

/-- an integer's text -/
def intText (n : Int) : List UInt8 := if n < 0 then [40, 45, 32] ++ Lib.decDigits n.natAbs ++ [41] else Lib.decDigits n.toNat
def boolText (b : Bool) : List UInt8 := if b then [116, 114, 117, 101] else [102, 97, 108, 115, 101]

set_option maxHeartbeats 1000000 in
set_option maxRecDepth 100000 in
theorem value_bool (B b : Nat) (T : TabD) (bo : Bool) (hi lo E : Int) (w : World) (h : IsTab w B b T) :
    Calls Tryz.prog 18 #[.pointer (some ⟨b, 0, none⟩), .agg #[.int .i64 0, .bool bo, .int .i64 hi, .int .i64 lo, .int .i64 E]] w fun e w' => e = .returned (.tuple #[.string ⟨(boolText bo).toArray⟩, .int .i64 0]) ∧ Below w.heap.size w w' := by
  have htb : ∀ o, IsTab (w.alloc o) B b T := fun o => h.keeps (ts := []) (Below.keeps_all ((Below.refl _ w).alloc (Nat.le_refl _) o) [] false) (by simp) (by simp) (by simp) (by simp)
  have hsn : ∀ w, IsTab w B b T → Calls Tryz.prog 60 #[.pointer (some ⟨b, 0, none⟩), .int .i64 0] w fun e w' => e = .returned (.tuple #[.string ⟨#[66, 111, 111, 108]⟩, .int .i64 0]) ∧ w = w' := fun w hw => by
    have h := sortName_any B b T 0 w hw (by omega)
    have e : T.sortName 0 = (⟨#[66, 111, 111, 108]⟩, 0) := rfl
    rw [e] at h
    exact h
  have hfb : ∀ w, Calls Tryz.prog 61 #[.bool bo] w fun e w' => e = .returned (.string ⟨(boolText bo).toArray⟩) ∧ w = w' := fun w => by
    refine (Tryz.strconv_FormatBool bo w).mono ?_
    rintro e w' ⟨he, hw⟩
    refine ⟨by rw [he]; cases bo <;> rfl, hw.symm⟩
  have Hsn := Lib.hid hsn
  have Htb := Lib.hid htb
  have Hfb := Lib.hid hfb
  clear hsn htb hfb h
  go_enter Tryz.func18, Tryz.ntmps18
  go_wp2_with (first | (go_at_call 60; refine (Hsn.out _ (Htb.out _)).mono ?_; rintro e w1 ⟨rfl, rfl⟩) | (go_at_call 61; refine (Hfb.out _).mono ?_; rintro e w2 ⟨rfl, rfl⟩))
  go_ret2
  refine ⟨rfl, ?_⟩
  repeat (first | exact Below.refl _ _ | refine Below.alloc ?_ (by simp) _ | refine Below.setCell ?_ (by simp) _)

set_option maxHeartbeats 1000000 in
set_option maxRecDepth 100000 in
theorem value_gone (B b : Nat) (T : TabD) (s : Int) (bo : Bool) (hi lo E : Int) (w : World) (h : IsTab w B b T) (hs1 : s ≤ 9223372036854775807) (hnm : T.sortName s = (⟨#[]⟩, 7)) :
    Calls Tryz.prog 18 #[.pointer (some ⟨b, 0, none⟩), .agg #[.int .i64 s, .bool bo, .int .i64 hi, .int .i64 lo, .int .i64 E]] w fun e w' => e = .returned (.tuple #[.string ⟨#[]⟩, .int .i64 7]) ∧ Below w.heap.size w w' := by
  have htb : ∀ o, IsTab (w.alloc o) B b T := fun o => h.keeps (ts := []) (Below.keeps_all ((Below.refl _ w).alloc (Nat.le_refl _) o) [] false) (by simp) (by simp) (by simp) (by simp)
  have hsn := sortName_any B b T s
  rw [hnm] at hsn
  have Hsn := Lib.hid hsn
  have Htb := Lib.hid htb
  have Hs1 := Lib.hid hs1
  clear hsn htb h hs1 hnm
  go_enter Tryz.func18, Tryz.ntmps18
  go_wp2_with (first | (go_at_call 60; refine (Hsn.out _ (Htb.out _) Hs1.out).mono ?_; rintro e w1 ⟨rfl, rfl⟩))
  go_ret2
  refine ⟨rfl, ?_⟩
  repeat (first | exact Below.refl _ _ | refine Below.alloc ?_ (by simp) _ | refine Below.setCell ?_ (by simp) _)

theorem cut_pos (m : Nat) : Lib.hasPrefix (Lib.decDigits m) [45] = false := by
  have h := dec_digit m
  cases hd : Lib.decDigits m with
  | nil => exact absurd hd (dec_ne m)
  | cons c r =>
    have := h c (by rw [hd]; simp)
    have hc : c ≠ 45 := by intro e; subst e; exact absurd this.1 (by decide)
    have hc2 : ((45 : UInt8) == c) = false := by rw [beq_eq_false_iff_ne]; exact fun e => hc e.symm
    simp only [Lib.hasPrefix, List.isPrefixOf, hc2, Bool.false_and]
theorem cut_neg (l : List UInt8) : Lib.hasPrefix (45 :: l) [45] = true ∧ Lib.trimPrefix (45 :: l) [45] = l := by
  constructor
  · unfold Lib.hasPrefix; simp
  · unfold Lib.trimPrefix Lib.hasPrefix; simp
theorem ret_si {a b : ByteArray} {n : Int} (h : a = b) : Ending.returned (.tuple #[.string a, .int .i64 n]) = .returned (.tuple #[.string b, .int .i64 n]) := by rw [h]

set_option maxHeartbeats 2000000 in
set_option maxRecDepth 100000 in
theorem value_int (B b : Nat) (T : TabD) (bo : Bool) (hi lo E : Int) (w : World) (h : IsTab w B b T) (h1 : -9223372036854775808 ≤ hi ∧ hi ≤ 9223372036854775807) (h2 : -9223372036854775808 ≤ lo ∧ lo ≤ 9223372036854775807) :
    Calls Tryz.prog 18 #[.pointer (some ⟨b, 0, none⟩), .agg #[.int .i64 1, .bool bo, .int .i64 hi, .int .i64 lo, .int .i64 E]] w fun e w' => e = .returned (.tuple #[.string ⟨(intText (numV hi lo)).toArray⟩, .int .i64 0]) ∧ Below w.heap.size w w' := by
  have htb : ∀ o, IsTab (w.alloc o) B b T := fun o => h.keeps (ts := []) (Below.keeps_all ((Below.refl _ w).alloc (Nat.le_refl _) o) [] false) (by simp) (by simp) (by simp) (by simp)
  have hsn : ∀ w, IsTab w B b T → Calls Tryz.prog 60 #[.pointer (some ⟨b, 0, none⟩), .int .i64 1] w fun e w' => e = .returned (.tuple #[.string ⟨#[73, 110, 116]⟩, .int .i64 0]) ∧ w = w' := fun w hw => by
    have h := sortName_any B b T 1 w hw (by omega)
    have e : T.sortName 1 = (⟨#[73, 110, 116]⟩, 0) := rfl
    rw [e] at h
    exact h
  have hwr := fun w => write_any hi lo w h1 h2
  have hx : ∀ W : World, Below (w.alloc (Obj.cells #[.int .i64 1, .bool bo, .int .i64 hi, .int .i64 lo, .int .i64 E] 51)).heap.size (w.alloc (Obj.cells #[.int .i64 1, .bool bo, .int .i64 hi, .int .i64 lo, .int .i64 E] 51)) W →
      W.cell? ⟨w.heap.size, 2, none⟩ = some (.int .i64 hi) ∧ W.cell? ⟨w.heap.size, 3, none⟩ = some (.int .i64 lo) := by
    intro W hb
    have hbk := (hb.block w.heap.size (by simp)).trans (heap_alloc_new w _)
    rw [Lib.cell_of_heap hbk, Lib.cell_of_heap hbk]
    exact ⟨rfl, rfl⟩
  have Hsn := Lib.hid hsn
  have Htb := Lib.hid htb
  have Hwr := Lib.hid hwr
  have Hx := Lib.hid hx
  clear hsn htb hwr hx h
  obtain ⟨m, hm⟩ : ∃ m : Nat, m = (numV hi lo).natAbs := ⟨_, rfl⟩
  have hm40 : m < 10 ^ 40 := by unfold numV at hm; omega
  have hlen := dec_len 39 m hm40
  by_cases hneg : numV hi lo < 0
  · have e1 : Lib.itoa (numV hi lo) = 45 :: Lib.decDigits m := by rw [hm]; unfold Lib.itoa; rw [if_pos hneg]
    have e2 : intText (numV hi lo) = [40, 45, 32] ++ Lib.decDigits m ++ [41] := by rw [hm]; unfold intText; rw [if_pos hneg]
    rw [e2]
    rw [e1] at Hwr
    have hct := fun w => Tryz.strings_CutPrefix ⟨(45 :: Lib.decDigits m).toArray⟩ ⟨#[45]⟩ w
    simp only [(cut_neg (Lib.decDigits m)).1, (cut_neg (Lib.decDigits m)).2] at hct
    have Hct := Lib.hid hct
    obtain ⟨D, hD⟩ : ∃ D : ByteArray, D = ⟨(Lib.decDigits m).toArray⟩ := ⟨_, rfl⟩
    have hDs : D.size ≤ 40 := by rw [hD]; simpa [ByteArray.size] using hlen
    have hD3 : (⟨#[40, 45, 32]⟩ : ByteArray).size + D.size ≤ 50 := by have : (⟨#[40, 45, 32]⟩ : ByteArray).size = 3 := rfl; omega
    have hD4 : ((⟨#[40, 45, 32]⟩ : ByteArray) ++ D).size + (⟨#[41]⟩ : ByteArray).size ≤ 50 := by have e3 : (⟨#[40, 45, 32]⟩ : ByteArray).size = 3 := rfl; have e4 : (⟨#[41]⟩ : ByteArray).size = 1 := rfl; rw [ByteArray.size_append]; omega
    have hres : (⟨#[40, 45, 32]⟩ : ByteArray) ++ D ++ ⟨#[41]⟩ = ⟨([40, 45, 32] ++ Lib.decDigits m ++ [41]).toArray⟩ := by
      have h1 := cat_list [40, 45, 32] (Lib.decDigits m)
      have h2 := cat_list ([40, 45, 32] ++ Lib.decDigits m) [41]
      rw [hD]
      exact (congrArg (fun x : ByteArray => x ++ (⟨#[41]⟩ : ByteArray)) h1).trans h2
    rw [← hD] at Hct
    have Hres := Lib.hid hres
    clear hct e1 e2 hneg hm hm40 hD hres hlen h1 h2
    go_enter Tryz.func18, Tryz.ntmps18
    go_wp2_with (first | (go_at_call 60; refine (Hsn.out _ (Htb.out _)).mono ?_; rintro e w1 ⟨rfl, rfl⟩))
    refine (Hwr.out _).mono ?_
    rintro e w2 ⟨rfl, hb2⟩
    go_wp2_with fail
    refine (Hct.out _).mono ?_
    rintro e w3 ⟨rfl, rfl⟩
    go_wp2_with fail
    go_ret2
    exact ⟨ret_si Hres.out, ((Below.refl _ w).alloc (Nat.le_refl _) _).trans (hb2.mono (by simp))⟩
  · have e1 : Lib.itoa (numV hi lo) = Lib.decDigits m := by
      have e : (numV hi lo).toNat = m := by omega
      unfold Lib.itoa; rw [if_neg (by omega), e]
    have e2 : intText (numV hi lo) = Lib.decDigits m := by
      have e : (numV hi lo).toNat = m := by omega
      unfold intText; rw [if_neg hneg, e]
    rw [e2]
    rw [e1] at Hwr
    have hct : ∀ w, ∃ x, Calls Tryz.prog 64 #[.string ⟨(Lib.decDigits m).toArray⟩, .string ⟨#[45]⟩] w fun e w' => e = .returned (.tuple #[.string x, .bool false]) ∧ w = w' := fun w => by
      have h := Tryz.strings_CutPrefix ⟨(Lib.decDigits m).toArray⟩ ⟨#[45]⟩ w
      simp only [cut_pos m] at h
      exact ⟨_, h.mono fun e w' ⟨he, hw⟩ => ⟨he, hw.symm⟩⟩
    have Hct := Lib.hid hct
    clear hct e1 e2 hneg hm hm40 hlen h1 h2
    go_enter Tryz.func18, Tryz.ntmps18
    go_wp2_with (first | (go_at_call 60; refine (Hsn.out _ (Htb.out _)).mono ?_; rintro e w1 ⟨rfl, rfl⟩))
    refine (Hwr.out _).mono ?_
    rintro e w2 ⟨rfl, hb2⟩
    obtain ⟨x2, x3⟩ := Hx.out w2 hb2
    obtain ⟨X, hX⟩ := Hct.out w2
    have HX := Lib.hid hX
    clear hX
    go_wp2_with fail
    refine HX.out.mono ?_
    rintro e w3 ⟨rfl, rfl⟩
    go_wp2_with fail
    refine (Hwr.out _).mono ?_
    rintro e w3 ⟨rfl, hb3⟩
    go_wp2_with fail
    go_ret2
    have hb4 : Below w.heap.size w w2 := ((Below.refl _ w).alloc (Nat.le_refl _) _).trans (hb2.mono (by simp))
    exact ⟨rfl, hb4.trans (hb3.mono hb4.size)⟩
end Go.Proofs.YtjdgfdpbiidldaaGreatDoor

namespace Go.Proofs.YtjdgfdpbiidldaaGreatDoor
open Go.RowKit
namespace JM

theorem struct_kind {K : Type} [DecidableEq K] {P : Program} {kt : TypeId} {kv : K → Value} (hwide : (match P.underlying kt with | some (.array _ _) | some (.struct _) => true | _ => false) = true)
    (heq : ∀ w k k', (Op.equal kt (kv k) (kv k')).run P w = .ok (decide (k = k')) w) (hchk : ∀ (w : World) (b : Bool) (k : K), (Instr.checkKey b 10000 kt (kv k)).run P w = .ok () w) (hbits : ∀ k, Instr.sameBits 10000 (kv k) (kv k) = true) : KeyKind P kt kv where
  find := by
    intro w k l es h
    have key : ∀ (l : List (K × Value)) (es : List MapEntry) (i : Nat), es.map (fun e => (e.key, e.val)) = l.map (fun p => (kv p.1, p.2)) → (Instr.findAsking kt (kv k) es i).run P w = .ok (findAt k l i) w := by
      intro l
      induction l with
      | nil => intro es i h; cases es with | nil => simp [Instr.findAsking, findAt] | cons e es => simp at h
      | cons p l ih =>
        intro es i h
        cases es with
        | nil => simp at h
        | cons e es =>
          simp only [List.map_cons, List.cons.injEq, Prod.mk.injEq] at h
          obtain ⟨⟨h1, h2⟩, h3⟩ := h
          simp only [Instr.findAsking, h1, findAt, Sem.run_bind, heq, Result.andThen_ok]
          by_cases hkp : k = p.1
          · rw [decide_eq_true hkp, if_pos hkp, h2]; simp
          · rw [decide_eq_false hkp, if_neg hkp]
            simpa using ih es (i + 1) h3
    rw [run_findKey_eq w hwide]
    exact key l es 0 h
  check := hchk
  bits := hbits
end JM

theorem check_int {P : Program} {w : World} {b : Bool} {n : Nat} {t : TypeId} {q : IntKind} {a : Int} (h : P.underlying t = some (.int q)) : (Instr.checkKey b (n + 1) t (.int q a)).run P w = .ok () w := by simp [Instr.checkKey, run_underlying h]
/-- a field that is an integer, and what stands behind it -/
theorem field_int {P : Program} {d : Nat} {xs ys : Array Value} {f : Field} {fs : List Field} {q : IntKind} {a b : Int} {s : Bool} {w : World} (hn : f.name ≠ "_") (hp : P.plainKey f.type = true) (hu : P.underlying f.type = some (.int q))
    (hx : xs[f.offset]? = some (.int q a)) (hy : ys[f.offset]? = some (.int q b)) (hr : (Op.eqFields (d + 1) xs ys fs).run P w = .ok s w) : (Op.eqFields (d + 1) xs ys (f :: fs)).run P w = .ok (decide (a = b) && s) w := by
  rw [Op.eqFields]
  simp only [if_pos hn, Sem.run_bind, run_part_plain w hp hx, run_part_plain w hp hy, run_equalIn_int w d f.type q q a b hu, Result.andThen_ok]
  by_cases h : a = b
  · subst h
    simp [hr]
  · simp [h]
theorem field_nil {P : Program} {d : Nat} {xs ys : Array Value} {w : World} : (Op.eqFields d xs ys []).run P w = .ok true w := by simp [Op.eqFields]

structure CellK where
  ahead : Int
  last : Int
  deriving DecidableEq
def CellK.v (k : CellK) : Value := .agg #[.int .i64 k.ahead, .int .i64 k.last]
structure KeyK where
  op : Int
  fn : Int
  num : Int
  sort : Int
  args : Int
  deriving DecidableEq
def KeyK.v (k : KeyK) : Value := .agg #[.int .u8 k.op, .int .i64 k.fn, .int .i64 k.num, .int .i64 k.sort, .int .i64 k.args]

theorem struct271 : ∃ f0 f1, Tryz.prog.underlying 271 = some (.struct #[f0, f1]) ∧ (f0.name ≠ "_" ∧ f0.type = 3 ∧ f0.offset = 0) ∧ (f1.name ≠ "_" ∧ f1.type = 75 ∧ f1.offset = 1) := ⟨_, _, Tryz.underlying271, ⟨by decide, rfl, rfl⟩, ⟨by decide, rfl, rfl⟩⟩
set_option maxRecDepth 100000 in
theorem eq271 (w : World) (k k' : CellK) : (Op.equal 271 k.v k'.v).run Tryz.prog w = .ok (decide (k = k')) w := by
  obtain ⟨f0, f1, hu, ⟨n0, t0, o0⟩, ⟨n1, t1, o1⟩⟩ := struct271
  have hf : Tryz.prog.fieldsOf 271 = #[f0, f1] := by unfold Program.fieldsOf; rw [hu]
  have hp : Tryz.prog.stoodInHeld 271 = false := by kernel_rfl
  unfold CellK.v
  show (Op.equalIn (9998 + 1 + 1) 271 _ _).run Tryz.prog w = _
  rw [run_equalIn_agg w (9998 + 1) 271 _ _ (by rw [hf]; exact hu) hp, hf]
  rw [show (#[f0, f1] : Array Field).toList = [f0, f1] from rfl, field_int n0 (by rw [t0]; kernel_rfl) (by rw [t0]; exact Tryz.underlying3) (by rw [o0]; rfl) (by rw [o0]; rfl) (field_int n1 (by rw [t1]; kernel_rfl) (by rw [t1]; exact Tryz.underlying75) (by rw [o1]; rfl) (by rw [o1]; rfl) field_nil)]
  obtain ⟨a0, a1⟩ := k
  obtain ⟨b0, b1⟩ := k'
  congr 1
  rw [Bool.eq_iff_iff]
  simp
theorem kind271 : JM.KeyKind Tryz.prog 271 CellK.v :=
  JM.struct_kind (by kernel_rfl) eq271 (fun w b k => by
    obtain ⟨f0, f1, hu, ⟨n0, t0, o0⟩, ⟨n1, t1, o1⟩⟩ := struct271
    have p0 : (part f0.type #[.int .i64 k.ahead, .int .i64 k.last] f0.offset).run Tryz.prog w = .ok (.int .i64 k.ahead) w := run_part_plain w (by rw [t0]; kernel_rfl) (by rw [o0]; rfl)
    have p1 : (part f1.type #[.int .i64 k.ahead, .int .i64 k.last] f1.offset).run Tryz.prog w = .ok (.int .i64 k.last) w := run_part_plain w (by rw [t1]; kernel_rfl) (by rw [o1]; rfl)
    have c0 : (Instr.checkKey b 9999 f0.type (.int .i64 k.ahead)).run Tryz.prog w = .ok () w := check_int (n := 9998) (by rw [t0]; exact Tryz.underlying3)
    have c1 : (Instr.checkKey b 9999 f1.type (.int .i64 k.last)).run Tryz.prog w = .ok () w := check_int (n := 9998) (by rw [t1]; exact Tryz.underlying75)
    unfold CellK.v Instr.checkKey
    simp only [Sem.run_bind, run_underlying hu, Result.andThen_ok]
    rw [← Array.forIn_toList]
    simp [n0, p0, c0, n1, p1, c1]) (fun k => by unfold CellK.v; simp [Instr.sameBits])
theorem struct274 : ∃ f0 f1 f2 f3 f4, Tryz.prog.underlying 274 = some (.struct #[f0, f1, f2, f3, f4]) ∧ (f0.name ≠ "_" ∧ f0.type = 170 ∧ f0.offset = 0) ∧ (f1.name ≠ "_" ∧ f1.type = 3 ∧ f1.offset = 1) ∧ (f2.name ≠ "_" ∧ f2.type = 2 ∧ f2.offset = 2) ∧ (f3.name ≠ "_" ∧ f3.type = 47 ∧ f3.offset = 3) ∧ (f4.name ≠ "_" ∧ f4.type = 3 ∧ f4.offset = 4) := ⟨_, _, _, _, _, Tryz.underlying274, ⟨by decide, rfl, rfl⟩, ⟨by decide, rfl, rfl⟩, ⟨by decide, rfl, rfl⟩, ⟨by decide, rfl, rfl⟩, ⟨by decide, rfl, rfl⟩⟩
set_option maxRecDepth 100000 in
theorem eq274 (w : World) (k k' : KeyK) : (Op.equal 274 k.v k'.v).run Tryz.prog w = .ok (decide (k = k')) w := by
  obtain ⟨f0, f1, f2, f3, f4, hu, ⟨n0, t0, o0⟩, ⟨n1, t1, o1⟩, ⟨n2, t2, o2⟩, ⟨n3, t3, o3⟩, ⟨n4, t4, o4⟩⟩ := struct274
  have hf : Tryz.prog.fieldsOf 274 = #[f0, f1, f2, f3, f4] := by unfold Program.fieldsOf; rw [hu]
  have hp : Tryz.prog.stoodInHeld 274 = false := by kernel_rfl
  unfold KeyK.v
  show (Op.equalIn (9998 + 1 + 1) 274 _ _).run Tryz.prog w = _
  rw [run_equalIn_agg w (9998 + 1) 274 _ _ (by rw [hf]; exact hu) hp, hf]
  rw [show (#[f0, f1, f2, f3, f4] : Array Field).toList = [f0, f1, f2, f3, f4] from rfl, field_int n0 (by rw [t0]; kernel_rfl) (by rw [t0]; exact Tryz.underlying170) (by rw [o0]; rfl) (by rw [o0]; rfl) (field_int n1 (by rw [t1]; kernel_rfl) (by rw [t1]; exact Tryz.underlying3) (by rw [o1]; rfl) (by rw [o1]; rfl) (field_int n2 (by rw [t2]; kernel_rfl) (by rw [t2]; exact Tryz.underlying2) (by rw [o2]; rfl) (by rw [o2]; rfl) (field_int n3 (by rw [t3]; kernel_rfl) (by rw [t3]; exact Tryz.underlying47) (by rw [o3]; rfl) (by rw [o3]; rfl) (field_int n4 (by rw [t4]; kernel_rfl) (by rw [t4]; exact Tryz.underlying3) (by rw [o4]; rfl) (by rw [o4]; rfl) field_nil))))]
  obtain ⟨a0, a1, a2, a3, a4⟩ := k
  obtain ⟨b0, b1, b2, b3, b4⟩ := k'
  congr 1
  rw [Bool.eq_iff_iff]
  simp
theorem kind274 : JM.KeyKind Tryz.prog 274 KeyK.v :=
  JM.struct_kind (by kernel_rfl) eq274 (fun w b k => by
    obtain ⟨f0, f1, f2, f3, f4, hu, ⟨n0, t0, o0⟩, ⟨n1, t1, o1⟩, ⟨n2, t2, o2⟩, ⟨n3, t3, o3⟩, ⟨n4, t4, o4⟩⟩ := struct274
    have p0 : (part f0.type #[.int .u8 k.op, .int .i64 k.fn, .int .i64 k.num, .int .i64 k.sort, .int .i64 k.args] f0.offset).run Tryz.prog w = .ok (.int .u8 k.op) w := run_part_plain w (by rw [t0]; kernel_rfl) (by rw [o0]; rfl)
    have p1 : (part f1.type #[.int .u8 k.op, .int .i64 k.fn, .int .i64 k.num, .int .i64 k.sort, .int .i64 k.args] f1.offset).run Tryz.prog w = .ok (.int .i64 k.fn) w := run_part_plain w (by rw [t1]; kernel_rfl) (by rw [o1]; rfl)
    have p2 : (part f2.type #[.int .u8 k.op, .int .i64 k.fn, .int .i64 k.num, .int .i64 k.sort, .int .i64 k.args] f2.offset).run Tryz.prog w = .ok (.int .i64 k.num) w := run_part_plain w (by rw [t2]; kernel_rfl) (by rw [o2]; rfl)
    have p3 : (part f3.type #[.int .u8 k.op, .int .i64 k.fn, .int .i64 k.num, .int .i64 k.sort, .int .i64 k.args] f3.offset).run Tryz.prog w = .ok (.int .i64 k.sort) w := run_part_plain w (by rw [t3]; kernel_rfl) (by rw [o3]; rfl)
    have p4 : (part f4.type #[.int .u8 k.op, .int .i64 k.fn, .int .i64 k.num, .int .i64 k.sort, .int .i64 k.args] f4.offset).run Tryz.prog w = .ok (.int .i64 k.args) w := run_part_plain w (by rw [t4]; kernel_rfl) (by rw [o4]; rfl)
    have c0 : (Instr.checkKey b 9999 f0.type (.int .u8 k.op)).run Tryz.prog w = .ok () w := check_int (n := 9998) (by rw [t0]; exact Tryz.underlying170)
    have c1 : (Instr.checkKey b 9999 f1.type (.int .i64 k.fn)).run Tryz.prog w = .ok () w := check_int (n := 9998) (by rw [t1]; exact Tryz.underlying3)
    have c2 : (Instr.checkKey b 9999 f2.type (.int .i64 k.num)).run Tryz.prog w = .ok () w := check_int (n := 9998) (by rw [t2]; exact Tryz.underlying2)
    have c3 : (Instr.checkKey b 9999 f3.type (.int .i64 k.sort)).run Tryz.prog w = .ok () w := check_int (n := 9998) (by rw [t3]; exact Tryz.underlying47)
    have c4 : (Instr.checkKey b 9999 f4.type (.int .i64 k.args)).run Tryz.prog w = .ok () w := check_int (n := 9998) (by rw [t4]; exact Tryz.underlying3)
    unfold KeyK.v Instr.checkKey
    simp only [Sem.run_bind, run_underlying hu, Result.andThen_ok]
    rw [← Array.forIn_toList]
    simp [n0, p0, c0, n1, p1, c1, n2, p2, c2, n3, p3, c3, n4, p4, c4]) (fun k => by unfold KeyK.v; simp [Instr.sameBits])
end Go.Proofs.YtjdgfdpbiidldaaGreatDoor

namespace Go.Proofs.YtjdgfdpbiidldaaGreatDoor
open Go.RowKit

structure NodeD where
  op : Int
  fn : Int
  num : Int
  sort : Int
  args : List Int
structure StoreD where
  nodes : List NodeD
  terms : List (KeyK × Nat)
  lists : List (CellK × Nat)

def nodeCells (p : NodeD × Value) : List Value := [.int .u8 p.1.op, .int .i64 p.1.fn, .int .i64 p.1.num, .int .i64 p.1.sort, p.2]
theorem nodeCells_len (p : NodeD × Value) : (nodeCells p).length = 5 := rfl

structure IsStore (w : World) (B b : Nat) (S : StoreD) : Prop where
  ex : ∃ (lv : Value) (mt ml : Nat) (rows : List (NodeD × Value)), w.heap[b]? = some (.cells #[lv, .map (some mt), .map (some ml)] 168 (0, 0)) ∧ rows.map (·.1) = S.nodes ∧ w.ownsRow B 172 5 lv rows.length (rows.flatMap nodeCells) ∧
    (∀ p ∈ rows, IntsAt 75 w p.2 p.1.args ∧ (p.1.args = [] → p.2 = .slice none 0 0)) ∧ JM.IsM KeyK.v w mt (S.terms.map fun p => (p.1, Value.int .i64 p.2)) ∧ JM.IsM CellK.v w ml (S.lists.map fun p => (p.1, Value.int .i64 p.2)) ∧ mt ≠ ml ∧ B ≤ mt ∧ B ≤ ml
  bB : B ≤ b
  few : S.nodes.length ≤ 20000

/-- a store's key -/
def key0 (n : NodeD) : KeyK := ⟨n.op, n.fn, n.num, n.sort, 0⟩
def StoreD.find (S : StoreD) (k : KeyK) : Option Int := match JM.findAt k (S.terms.map fun p => (p.1, Value.int .i64 p.2)) 0 with | some (_, .int _ t) => some t | _ => none
def StoreD.add0 (S : StoreD) (n : NodeD) : StoreD := ⟨S.nodes ++ [n], S.terms ++ [(key0 n, S.nodes.length)], S.lists⟩

theorem IsStore.same {w w' : World} {B b : Nat} {S : StoreD} (h : IsStore w B b S) (hs : Below w.heap.size w w') : IsStore w' B b S := by
  obtain ⟨⟨lv, mt, ml, rows, hb, hall, hrow, hargs, ht, hl, r⟩, hB, hf⟩ := h
  have hlt : b < w.heap.size := (Array.getElem?_eq_some_iff.1 hb).1
  refine ⟨⟨lv, mt, ml, rows, (hs.block b hlt).trans hb, hall, ownsRow_same hrow (fun g hg => hs.block g (hrow.lt g hg).2), fun p hp => ?_, ht.same (hs.block mt ht.lt), hl.same (hs.block ml hl.lt), r⟩, hB, hf⟩
  refine ⟨?_, (hargs p hp).2⟩
  obtain ⟨ao, cap, hv, hx⟩ := (hargs p hp).1
  refine ⟨ao, cap, hv, ?_⟩
  rcases hx with hx | ⟨b', o, cs, fz, ha, hb', hc⟩
  · exact .inl hx
  · exact .inr ⟨b', o, cs, fz, ha, (hs.block b' (Array.getElem?_eq_some_iff.1 hb').1).trans hb', hc⟩

set_option maxHeartbeats 1000000 in
theorem cloneTerms_nil (w : World) : Calls Tryz.prog 151 #[.slice none 0 0] w fun e w' => e = .returned (.slice none 0 0) ∧ w = w' := by
  have h := fun w => Lib.run_eql_slice_nil (P := Tryz.prog) w 104
  go_enter Tryz.func151, Tryz.ntmps151
  go_wp2
  go_ret
  exact ⟨rfl, rfl⟩

theorem info172 : (Tryz.prog.info? 172).map (fun i => (i.zero, i.size, i.bytes)) = some (some (.agg #[.int .u8 0, .int .i64 0, .int .i64 0, .int .i64 0, .slice none 0 0]), 5, 56) := by kernel_rfl

set_option maxHeartbeats 4000000 in
set_option maxRecDepth 100000 in
theorem put_old (B b : Nat) (S : StoreD) (op fn num so t : Int) (w : World) (h : IsStore w B b S) (hf : JM.get (S.terms.map fun p => (p.1, Value.int .i64 p.2)) ⟨op, fn, num, so, 0⟩ = some (.int .i64 t)) :
    Calls Tryz.prog 74 #[.pointer (some ⟨b, 0, none⟩), .agg #[.int .u8 op, .int .i64 fn, .int .i64 num, .int .i64 so, .slice none 0 0]] w fun e w' => e = .returned (.tuple #[.int .i64 t, .int .i64 0]) ∧ Below w.heap.size w w' := by
  obtain ⟨⟨lv, mt, ml, rows, hb, hall, hrow, hargs, ht, hl, r⟩, hB, hfew⟩ := h
  have hblt : b < w.heap.size := (Array.getElem?_eq_some_iff.1 hb).1
  obtain ⟨W, hW⟩ : ∃ W, W = (w.alloc (.cells #[.int .u8 op, .int .i64 fn, .int .i64 num, .int .i64 so, .slice none 0 0] 172)).alloc (.cells #[.int .u8 op, .int .i64 fn, .int .i64 num, .int .i64 so, .int .i64 0] 274) := ⟨_, rfl⟩
  have hbel : Below w.heap.size w W := by rw [hW]; exact ((Below.refl _ w).alloc (Nat.le_refl _) _).alloc (by simp) _
  have hb1 := (hbel.block b hblt).trans hb
  have c1 : W.cell? ⟨b, 1, none⟩ = some (.map (some mt)) := by rw [Lib.cell_of_heap hb1]; rfl
  have hlk : ∀ nq, (Instr.lookup 165 (.map (some mt)) (.agg #[.int .u8 op, .int .i64 fn, .int .i64 num, .int .i64 so, .int .i64 0]) true).run Tryz.prog (W.drewN nq) = .ok (.tuple #[.int .i64 t, .bool true]) (W.drewN nq) := by
    intro nq
    have h1 : JM.IsM KeyK.v (W.drewN nq) mt (S.terms.map fun p => (p.1, Value.int .i64 p.2)) := ht.same (hbel.block mt ht.lt)
    have h2 := JM.run_lookup (P := Tryz.prog) kind274 Tryz.underlying165 h1 (z := .int .i64 0) (Tryz.zeroValue75 _) ⟨op, fn, num, so, 0⟩ true
    rw [hf] at h2
    exact h2
  rw [hW] at c1 hlk
  have Hbel := Lib.hid hbel
  have HW := Lib.hid hW
  clear hb hall hrow hargs ht hl r hB hfew hb1 hf hbel hW
  go_enter Tryz.func74, Tryz.ntmps74
  go_wp2_with fail
  refine wp_loop_rounds 1 ?_
  rw [rounds_succ]
  go_wp2_with fail
  go_quiet (fail)
  go_wp2
  go_ret2
  refine ⟨rfl, ?_⟩
  rw [← HW.out]
  exact below_drewN Hbel.out _
end Go.Proofs.YtjdgfdpbiidldaaGreatDoor
