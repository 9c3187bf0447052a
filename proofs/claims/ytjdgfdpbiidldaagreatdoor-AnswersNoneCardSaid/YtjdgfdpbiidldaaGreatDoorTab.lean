/-
  Layer 5 (sorts): how a table of names lies in memory, and what it says, in plain words. No condition.
-/
import Derived.Test.YtjdgfdpbiidldaaGreatDoorFr
import Derived.Test.YtjdgfdpbiidldaaGreatDoorJM
import Derived.Test.YtjdgfdpbiidldaaGreatDoorS1
import Derived.Deep.DeepCutAuto
namespace Go.Proofs.YtjdgfdpbiidldaaGreatDoor
open Go.RowKit

/-- a function (a sort is one without arguments) -/
structure FunD where
  name : ByteArray
  args : List Int
  res : Int
  defd : Bool

/-- what was declared of one kind: all, those that stand, the marks -/
structure NamesD where
  all : List FunD
  stands : List (ByteArray × Nat)
  marks : List Nat

structure TabD where
  sorts : NamesD
  funs : NamesD

def NamesD.empty : NamesD := ⟨[], [], []⟩

/-- integers of a slice, wherever they lie -/
def IntsAt (e : TypeId) (w : World) (v : Value) (xs : List Int) : Prop :=
  ∃ ao cap, v = .slice ao xs.length cap ∧ (xs = [] ∨ ∃ b o cs fz, ao = some ⟨b, o, none⟩ ∧ w.heap[b]? = some (.cells cs e fz) ∧ ∀ j, j < xs.length → cs[o + j]? = some (.int .i64 (xs.getD j 0)))

theorem IntsAt.keeps {e : TypeId} {w w' : World} {v : Value} {xs : List Int} (h : IntsAt e w v xs) {ts : List TypeId} {m : Bool} (k : Keeps ts m w w') (he : e ∉ ts) : IntsAt e w' v xs := by
  obtain ⟨ao, cap, hv, hx⟩ := h
  refine ⟨ao, cap, hv, ?_⟩
  rcases hx with hx | ⟨b, o, cs, fz, ha, hb, hc⟩
  · exact .inl hx
  · exact .inr ⟨b, o, cs, fz, ha, k b _ hb (by simpa [Touches] using he), hc⟩
theorem intsAt_nil (e : TypeId) (w : World) (ao : Option Addr) (cap : Nat) : IntsAt e w (.slice ao 0 cap) [] := ⟨ao, cap, rfl, .inl rfl⟩
theorem IntsAt.cell {e : TypeId} {w : World} {ao : Option Addr} {n cap : Nat} {xs : List Int} (h : IntsAt e w (.slice ao n cap) xs) : n = xs.length ∧ (xs = [] ∨ ∃ b o, ao = some ⟨b, o, none⟩ ∧ ∀ j, j < xs.length → w.cell? ⟨b, o + j, none⟩ = some (.int .i64 (xs.getD j 0))) := by
  obtain ⟨ao', cap', hv, hx⟩ := h
  cases hv
  refine ⟨rfl, ?_⟩
  rcases hx with hx | ⟨b, o, cs, fz, ha, hb, hc⟩
  · exact .inl hx
  · exact .inr ⟨b, o, ha, fun j hj => by rw [Lib.cell_of_heap hb]; exact hc j hj⟩

/-- the cells of a function whose arguments lie behind a value -/
def funCells (p : FunD × Value) : List Value := [.string p.1.name, p.2, .int .i64 p.1.res, .bool p.1.defd]
theorem funCells_len (p : FunD × Value) : (funCells p).length = 4 := rfl

/-- a record of names: three values -/
structure IsNames (w : World) (B : Nat) (va : Value) (mb : Nat) (vm : Value) (N : NamesD) (rows : List (FunD × Value)) : Prop where
  hall : rows.map (·.1) = N.all
  row : w.ownsRow B 86 4 va rows.length (rows.flatMap funCells)
  args : ∀ p ∈ rows, IntsAt 47 w p.2 p.1.args
  stands : JM.IsM Value.string w mb (N.stands.map fun p => (p.1, .int .i64 p.2))
  marks : w.ownsRow B 3 1 vm N.marks.length (N.marks.map fun (k : Nat) => Value.int .i64 k)
  mB : B ≤ mb
  few : N.all.length ≤ 2000

/-- a table at block b -/
structure IsTab (w : World) (B b : Nat) (T : TabD) : Prop where
  ex : ∃ vs ms vsm vf mf vfm rs rf, w.heap[b]? = some (.cells #[vs, .map (some ms), vsm, vf, .map (some mf), vfm] 164 (0, 0)) ∧
    IsNames w B vs ms vsm T.sorts rs ∧ IsNames w B vf mf vfm T.funs rf ∧ ms ≠ mf ∧ (∀ g, vs.ownBlock = some g → vf.ownBlock ≠ some g) ∧ (∀ g, vsm.ownBlock = some g → vfm.ownBlock ≠ some g)
  bB : B ≤ b

theorem IsNames.keeps {w w' : World} {B : Nat} {va vm : Value} {mb : Nat} {N : NamesD} {rows : List (FunD × Value)} (h : IsNames w B va mb vm N rows) {ts : List TypeId} (k : Keeps ts false w w') (h1 : 86 ∉ ts) (h2 : 47 ∉ ts) (h3 : 3 ∉ ts) : IsNames w' B va mb vm N rows := by
  refine ⟨h.hall, ownsRow_keeps h.row k h1, fun p hp => (h.args p hp).keeps k h2, ?_, ownsRow_keeps h.marks k h3, h.mB, h.few⟩
  obtain ⟨es, clock, hb, r⟩ := h.stands
  exact ⟨es, clock, k _ _ hb (by simp [Touches]), r⟩
theorem IsTab.keeps {w w' : World} {B b : Nat} {T : TabD} (h : IsTab w B b T) {ts : List TypeId} (k : Keeps ts false w w') (h0 : 164 ∉ ts) (h1 : 86 ∉ ts) (h2 : 47 ∉ ts) (h3 : 3 ∉ ts) : IsTab w' B b T := by
  obtain ⟨⟨vs, ms, vsm, vf, mf, vfm, rs, rf, hb, hs, hf, r⟩, hB⟩ := h
  exact ⟨⟨vs, ms, vsm, vf, mf, vfm, rs, rf, k _ _ hb (by simpa [Touches] using h0), hs.keeps k h1 h2 h3, hf.keeps k h1 h2 h3, r⟩, hB⟩

/-- what 'add' does -/
def NamesD.add (N : NamesD) (f : FunD) : NamesD × Nat × Int :=
  if (JM.findAt f.name (N.stands.map fun p => (p.1, Value.int .i64 p.2)) 0).isSome then (N, 0, 8)
  else if 2000 ≤ N.all.length then (N, 0, 9)
  else (⟨N.all ++ [f], N.stands ++ [(f.name, N.all.length)], N.marks⟩, N.all.length, 0)

theorem info86 : (Tryz.prog.info? 86).map (fun i => (i.zero, i.size, i.bytes)) = some (some (.agg #[.string ⟨#[]⟩, .slice none 0 0, .int .i64 0, .bool false]), 4, 56) := by kernel_rfl

set_option maxHeartbeats 1000000 in
set_option maxRecDepth 100000 in
theorem add_there (w : World) (B b o : Nat) (cs : Array Value) (va vm : Value) (mb : Nat) (N : NamesD) (rows : List (FunD × Value)) (f : FunD) (av : Value)
    (hb : w.heap[b]? = some (.cells cs 164 (0, 0))) (hm : cs[o + 1]? = some (.map (some mb)))
    (hN : IsNames w B va mb vm N rows) (hthere : (JM.findAt f.name (N.stands.map fun p => (p.1, Value.int .i64 p.2)) 0).isSome = true) :
    Calls Tryz.prog 108 #[.pointer (some ⟨b, o, none⟩), .agg #[.string f.name, av, .int .i64 f.res, .bool f.defd]] w fun e w' => e = .returned (.tuple #[.int .i64 0, .int .i64 8]) ∧ ∃ nq, w' = (w.alloc (.cells #[.string f.name, av, .int .i64 f.res, .bool f.defd] 86)).drewN nq := by
  have hc1 : w.cell? ⟨b, o + 1, none⟩ = some (.map (some mb)) := by rw [Lib.cell_of_heap hb]; exact hm
  have hblt : b < w.heap.size := (Array.getElem?_eq_some_iff.1 hb).1
  have hS := hN.stands
  have hlk : ∀ nq, (Instr.lookup 158 (.map (some mb)) (.string f.name) true).run Tryz.prog ((w.alloc (.cells #[.string f.name, av, .int .i64 f.res, .bool f.defd] 86)).drewN nq) = .ok (.tuple #[((JM.get (N.stands.map fun p => (p.1, Value.int .i64 p.2)) f.name).getD (.int .i64 0)), .bool true]) ((w.alloc (.cells #[.string f.name, av, .int .i64 f.res, .bool f.defd] 86)).drewN nq) := by
    intro nq
    have h1 : JM.IsM Value.string ((w.alloc (.cells #[.string f.name, av, .int .i64 f.res, .bool f.defd] 86)).drewN nq) mb (N.stands.map fun p => (p.1, Value.int .i64 p.2)) := hS.same (Lib.alloc_old w _ mb hS.lt)
    have h2 := JM.run_lookup (P := Tryz.prog) (JM.string_kind Tryz.underlying9) Tryz.underlying158 h1 (z := .int .i64 0) (Tryz.zeroValue3 _) f.name true
    rw [h2]
    simp [JM.get, hthere]
  go_enter Tryz.func108, Tryz.ntmps108
  go_wp2
  go_quiet (fail)
  go_wp2
  go_ret2
  exact ⟨rfl, _, rfl⟩

theorem ownsRow_pos {w : World} {B : Nat} {e : TypeId} {sz : Nat} {v : Value} {n : Nat} {xs : List Value} (h : w.ownsRow B e sz v (n + 1) xs) : ∃ g cap, v = .slice (some ⟨g, 0, none⟩) (n + 1) cap := by
  rcases h.2 with ⟨_, h0⟩ | ⟨g, cap, cur, hv, _⟩
  · omega
  · exact ⟨g, cap, hv⟩

set_option maxHeartbeats 2000000 in
set_option maxRecDepth 100000 in
theorem add_new (w : World) (B b o : Nat) (cs : Array Value) (va vm : Value) (mb : Nat) (N : NamesD) (rows : List (FunD × Value)) (f : FunD) (av : Value)
    (hb : w.heap[b]? = some (.cells cs 164 (0, 0))) (ha : cs[o]? = some va) (hm : cs[o + 1]? = some (.map (some mb))) (hB : B ≤ b) (hBw : B ≤ w.heap.size)
    (hN : IsNames w B va mb vm N rows) (hav : IntsAt 47 w av f.args) (hthere : (JM.findAt f.name (N.stands.map fun p => (p.1, Value.int .i64 p.2)) 0).isSome = false) (hroom : N.all.length < 2000) :
    Calls Tryz.prog 108 #[.pointer (some ⟨b, o, none⟩), .agg #[.string f.name, av, .int .i64 f.res, .bool f.defd]] w fun e w' => e = .returned (.tuple #[.int .i64 N.all.length, .int .i64 0]) ∧
      ∃ va', w'.heap[b]? = some (.cells (cs.setIfInBounds o va') 164 (0, 0)) ∧ IsNames w' B va' mb vm ⟨N.all ++ [f], N.stands ++ [(f.name, N.all.length)], N.marks⟩ (rows ++ [(f, av)]) ∧
        (∀ g, va'.ownBlock = some g → va.ownBlock = some g ∨ w.heap.size ≤ g) ∧ Upd (fun k => k = b ∨ k = mb ∨ va.ownBlock = some k) w w' := by
  have hc0 : w.cell? ⟨b, o, none⟩ = some va := by rw [Lib.cell_of_heap hb]; exact ha
  have hc1 : w.cell? ⟨b, o + 1, none⟩ = some (.map (some mb)) := by rw [Lib.cell_of_heap hb]; exact hm
  have hf0 : w.frozen? ⟨b, o, none⟩ = false := Lib.frozen_of_heap hb o
  have hblt : b < w.heap.size := (Array.getElem?_eq_some_iff.1 hb).1
  have hS := hN.stands
  have hlk : ∀ nq, (Instr.lookup 158 (.map (some mb)) (.string f.name) true).run Tryz.prog ((w.alloc (.cells #[.string f.name, av, .int .i64 f.res, .bool f.defd] 86)).drewN nq) = .ok (.tuple #[((JM.get (N.stands.map fun p => (p.1, Value.int .i64 p.2)) f.name).getD (.int .i64 0)), .bool false]) ((w.alloc (.cells #[.string f.name, av, .int .i64 f.res, .bool f.defd] 86)).drewN nq) := by
    intro nq
    have h1 : JM.IsM Value.string ((w.alloc (.cells #[.string f.name, av, .int .i64 f.res, .bool f.defd] 86)).drewN nq) mb (N.stands.map fun p => (p.1, Value.int .i64 p.2)) := hS.same (Lib.alloc_old w _ mb hS.lt)
    have h2 := JM.run_lookup (P := Tryz.prog) (JM.string_kind Tryz.underlying9) Tryz.underlying158 h1 (z := .int .i64 0) (Tryz.zeroValue3 _) f.name true
    rw [h2]
    simp [JM.get, hthere]
  have hlen : rows.length = N.all.length := by rw [← hN.hall]; simp
  have Hlen := Lib.hid hlen; clear hlen
  obtain ⟨i0, hi, hz0, hz1, hz2⟩ := info_parts info86
  obtain ⟨ao, cap, rfl⟩ := ownsRow_len hN.row
  have hlt2 : ¬ (2000 : Int) ≤ (rows.length : Int) := by have := Hlen.out; omega
  go_enter Tryz.func108, Tryz.ntmps108
  go_wp2
  go_quiet (fail)
  clear hlk
  go_wp2
  generalize (JM.get (List.map (fun p => (p.fst, Value.int IntKind.i64 ↑p.snd)) N.stands) f.name).getD (Value.int IntKind.i64 0) = z6
  obtain ⟨W, hWdef⟩ : ∃ W : World, W = (w.alloc (.cells #[.string f.name, av, .int .i64 f.res, .bool f.defd] 86)).drewN nq := ⟨_, rfl⟩
  have hbel : Below w.heap.size w W := by rw [hWdef]; exact below_drewN ((Below.refl _ w).alloc (Nat.le_refl _) _) _
  have hsz : W.heap.size = w.heap.size + 1 := by rw [hWdef]; simp
  have hbox : W.heap[w.heap.size]? = some (.cells #[.string f.name, av, .int .i64 f.res, .bool f.defd] 86 (0, 0)) := by rw [hWdef]; exact heap_alloc_new w _
  rw [← hWdef]
  clear hWdef hc0 hc1 hf0
  have hb1 : W.heap[b]? = some (.cells cs 164 (0, 0)) := (hbel.block b hblt).trans hb
  have hc0 : W.cell? ⟨b, o, none⟩ = some (.slice ao rows.length cap) := by rw [Lib.cell_of_heap hb1]; exact ha
  have hc1 : W.cell? ⟨b, o + 1, none⟩ = some (.map (some mb)) := by rw [Lib.cell_of_heap hb1]; exact hm
  have hf0 : W.frozen? ⟨b, o, none⟩ = false := Lib.frozen_of_heap hb1 o
  have hx0 : W.cell? ⟨w.heap.size, 0, none⟩ = some (.string f.name) := by rw [Lib.cell_of_heap hbox]; rfl
  have hx1 : W.cell? ⟨w.heap.size, 1, none⟩ = some av := by rw [Lib.cell_of_heap hbox]; rfl
  have hx2 : W.cell? ⟨w.heap.size, 2, none⟩ = some (.int .i64 f.res) := by rw [Lib.cell_of_heap hbox]; rfl
  have hx3 : W.cell? ⟨w.heap.size, 3, none⟩ = some (.bool f.defd) := by rw [Lib.cell_of_heap hbox]; rfl
  have hown : W.ownsRow B 86 4 (.slice ao rows.length cap) rows.length (rows.flatMap funCells) := ownsRow_same hN.row (fun g hg => hbel.block g (hN.row.lt g hg).2)
  have Hav := Lib.hid hav
  obtain ⟨aav, cav, rfl, _⟩ := hav
  have hownA : (W.alloc (.cells #[.string f.name, .slice aav f.args.length cav, .int .i64 f.res, .bool f.defd] 86)).drew.ownsRow B 86 4 (.slice ao rows.length cap) rows.length (rows.flatMap funCells) := hown.alloc _
  have HownA := Lib.hid hownA; clear hownA
  have hcellsA : ∀ j u, (funCells (f, .slice aav f.args.length cav))[j]? = some u → (W.alloc (.cells #[.string f.name, .slice aav f.args.length cav, .int .i64 f.res, .bool f.defd] 86)).drew.cell? ((⟨w.heap.size + 1, 0, none⟩ : Addr).add j) = some u := by
    intro j u hj
    rw [← hsz]
    exact new_cells W (funCells (f, .slice aav f.args.length cav)) 86 j u hj
  have HcellsA := Lib.hid hcellsA; clear hcellsA
  have hone : ∀ u ∈ funCells (f, .slice aav f.args.length cav), u.oneCell' = true := by intro u hu; simp [funCells] at hu; rcases hu with rfl | rfl | rfl | rfl <;> rfl
  have Hone := Lib.hid hone; clear hone
  have hbW : b < W.heap.size := by omega
  have hB1 : B ≤ (W.alloc (.cells #[.string f.name, .slice aav f.args.length cav, .int .i64 f.res, .bool f.defd] 86)).drew.heap.size := by simp; omega
  have HB1 := Lib.hid hB1; clear hB1
  have hub : Upd (fun k => k = b ∨ k = mb ∨ (Value.slice ao rows.length cap).ownBlock = some k) w W := Upd.of_all hbel _
  go_cut [] (fun wx => ∃ g' cap', wx.heap[b]? = some (.cells (cs.setIfInBounds o (.slice (some ⟨g', 0, none⟩) (rows.length + 1) cap')) 164 (0, 0)) ∧ wx.ownsRow B 86 4 (.slice (some ⟨g', 0, none⟩) (rows.length + 1) cap') (rows.length + 1) (rows.flatMap funCells ++ funCells (f, .slice aav f.args.length cav)) ∧
      Upd (fun k => k = b ∨ (Value.slice ao rows.length cap).ownBlock = some k) W wx ∧ ((Value.slice ao rows.length cap).ownBlock = some g' ∨ W.heap.size ≤ g'))
  case first =>
    go_region_law (refine step_append_own rfl (.tmp 29) (.tmp 31) 159 rfl B 86 i0 _ 4 56 Tryz.underlying159 hi hz0 hz1 hz2 rfl (by decide) (.slice ao rows.length cap) rows.length (rows.flatMap funCells) (by simp [Act.eval]) HownA.out ⟨w.heap.size + 1, 0, none⟩ 1 1 (funCells (f, .slice aav f.args.length cav)) (by simp [Act.eval]) rfl HcellsA.out Hone.out (by have := Hlen.out; unfold maxLen; omega) (by have := Hlen.out; omega) HB1.out ?_; intro v' w' hown' hgrow hwhich; obtain ⟨g', cap', rfl⟩ := ownsRow_pos hown'; have hb2 : w'.heap[b]? = some (.cells cs 164 (0, 0)) := (hgrow.block b (by simp; omega) (fun e => by obtain ⟨c, hc⟩ := ownsRow_kind hown b _ e.symm hb1; cases hc)).trans ((Lib.alloc_old W _ b hbW).trans hb1); have hc2 : w'.cell? ⟨b, o, none⟩ = some (.slice ao rows.length cap) := by { rw [Lib.cell_of_heap hb2]; exact ha }; have hf2 : w'.frozen? ⟨b, o, none⟩ = false := Lib.frozen_of_heap hb2 o; have Hb2 := Lib.hid hb2; have Hown' := Lib.hid hown'; have Hgrow := Lib.hid hgrow; clear hb2 hown' hgrow)
    all_goals (go_wp2_with fail; go_meet)
    all_goals
      have hne : g' ≠ b := by
        intro e
        obtain ⟨c, hc⟩ := ownsRow_kind Hown'.out g' _ rfl (e ▸ Hb2.out)
        cases hc
      refine ⟨g', cap', heap_set_at Hb2.out o _, ownsRow_same Hown'.out (fun g hg => Below.heap_setCell _ _ _ _ (by simp [Value.ownBlock] at hg; subst hg; exact hne)), (((Upd.refl (fun k => k = b ∨ (Value.slice ao rows.length cap).ownBlock = some k) W).alloc _).drew.grown Hgrow.out (fun k hk _ => Or.inr hk)).setCell (p := ⟨b, o, none⟩) (fun _ => Or.inl rfl) _, ?_⟩
      rcases hwhich g' rfl with h | h
      · exact .inl h
      · exact .inr (by simp at h; omega)
  case rest =>
    obtain ⟨g', cap', hb2, hown2, hupd2, hw2⟩ := hcut
    have hrow : ∀ k, (Value.slice ao rows.length cap).ownBlock = some k → k < w.heap.size := fun k hk => (hN.row.lt k hk).2
    have hbx : wc.heap[w.heap.size]? = some (.cells #[.string f.name, .slice aav f.args.length cav, .int .i64 f.res, .bool f.defd] 86 (0, 0)) := by
      rw [hupd2.block _ (by omega) (by rintro (e | e); · omega
                                       · have := hrow _ e; omega)]
      exact hbox
    have ho : o < cs.size := (Array.getElem?_eq_some_iff.1 ha).1
    have d0 : wc.cell? ⟨b, o, none⟩ = some (.slice (some ⟨g', 0, none⟩) (rows.length + 1) cap') := by rw [Lib.cell_of_heap hb2]; simp [ho]
    have d1 : wc.cell? ⟨b, o + 1, none⟩ = some (.map (some mb)) := by rw [Lib.cell_of_heap hb2, Array.getElem?_setIfInBounds, if_neg (by omega)]; exact hm
    have dx0 : wc.cell? ⟨w.heap.size, 0, none⟩ = some (.string f.name) := by rw [Lib.cell_of_heap hbx]; rfl
    have hmne : ∀ k, (Value.slice ao rows.length cap).ownBlock = some k → mb ≠ k := by
      intro k hk e
      subst e
      obtain ⟨es, clock, hmm, _⟩ := hS
      obtain ⟨c, hc⟩ := ownsRow_kind hN.row mb _ hk hmm
      cases hc
    have hmb : mb ≠ b := by
      intro e
      subst e
      obtain ⟨es, clock, hmm, _⟩ := hS
      rw [hmm] at hb; cases hb
    have hS2 : JM.IsM Value.string wc.drew mb (N.stands.map fun p => (p.1, Value.int .i64 p.2)) := by
      refine hS.same ?_
      show wc.heap[mb]? = w.heap[mb]?
      rw [hupd2.block mb (by have := hS.lt; omega) (by rintro (e | e); · exact hmb e
                                                       · exact hmne _ e rfl), hbel.block mb hS.lt]
    obtain ⟨w3, hup, hS3, hg3⟩ := JM.run_update (P := Tryz.prog) (JM.string_kind Tryz.underlying9) Tryz.underlying158 hS2 f.name (.int .i64 rows.length)
    have hwclt : b < wc.drew.heap.size := (Array.getElem?_eq_some_iff.1 hb2).1
    have hb3 : w3.heap[b]? = some (.cells (cs.setIfInBounds o (.slice (some ⟨g', 0, none⟩) (rows.length + 1) cap')) 164 (0, 0)) := (hg3.block b hwclt (by simpa using fun e => hmb e.symm)).trans hb2
    have d3 : w3.cell? ⟨b, o, none⟩ = some (.slice (some ⟨g', 0, none⟩) (rows.length + 1) cap') := by rw [Lib.cell_of_heap hb3]; simp [ho]
    have HS3 := Lib.hid hS3
    have Hg3 := Lib.hid hg3
    have Hb3 := Lib.hid hb3
    clear hS3 hg3 hS2 hS hb3
    go_wp2
    go_region
    go_wp2
    go_ret2
    have hlen := Hlen.out
    have hU : Upd (fun k => k = b ∨ k = mb ∨ (Value.slice ao rows.length cap).ownBlock = some k) w w3 := by
      refine ((hub.then hupd2 ?_).drew).grown Hg3.out ?_
      · rintro i hi (h | h)
        · exact .inl h
        · exact .inr (.inr h)
      · intro k hk _
        exact .inr (.inl (Option.some.inj hk).symm)
    have hKp : Keeps [164, 86] true w w3 := hU.keeps (by
      rintro k x (rfl | rfl | h) hx
      · rw [hb] at hx; cases hx; simp [Touches]
      · obtain ⟨es, clock, hmm, _⟩ := hN.stands
        rw [hmm] at hx; cases hx; simp [Touches]
      · obtain ⟨c, rfl⟩ := ownsRow_kind hN.row k x h hx
        simp [Touches])
    refine ⟨by rw [hlen]; rfl, .slice (some ⟨g', 0, none⟩) (rows.length + 1) cap', Hb3.out, ⟨?_, ?_, ?_, ?_, ?_, hN.mB, ?_⟩, ?_, hU⟩
    · simp [hN.hall]
    · have h1 : (rows ++ [(f, Value.slice aav f.args.length cav)]).length = rows.length + 1 := by simp
      have h2 : (rows ++ [(f, Value.slice aav f.args.length cav)]).flatMap funCells = rows.flatMap funCells ++ funCells (f, .slice aav f.args.length cav) := by simp
      rw [h1, h2]
      refine ownsRow_same hown2 (fun g hg => ?_)
      have hgl := (hown2.lt g hg).2
      refine Hg3.out.block g hgl ?_
      intro e
      have e2 : g = mb := Option.some.inj e
      simp [Value.ownBlock] at hg
      subst hg
      rcases hw2 with h | h
      · exact hmne _ h e2.symm
      · have := hN.stands.lt; omega
    · intro p hp
      rcases List.mem_append.1 hp with hp | hp
      · exact (hN.args p hp).keeps hKp (by decide)
      · simp at hp; subst hp
        exact Hav.out.keeps hKp (by decide)
    · have h3 := HS3.out
      have h4 : JM.findAt f.name (N.stands.map fun p => (p.1, Value.int .i64 p.2)) 0 = none := by simpa using hthere
      rw [JM.put, h4] at h3
      simpa [hlen] using h3
    · exact ownsRow_keeps hN.marks hKp (by decide)
    · simp; omega
    · intro g hg
      simp [Value.ownBlock] at hg
      subst hg
      rcases hw2 with h | h
      · exact .inl h
      · exact .inr (by omega)
end Go.Proofs.YtjdgfdpbiidldaaGreatDoor
