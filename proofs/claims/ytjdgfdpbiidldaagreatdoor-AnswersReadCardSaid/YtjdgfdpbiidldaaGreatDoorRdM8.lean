/-
  Layer 4 (tree): token, at a plain symbol. Conditions: the text's own size.
  Layer 4 (tree): what a tree's text is made of: the iterator, at a tree that is no list. No condition.
  strings.Builder over this program: copyCheck, WriteByte, WriteString: a builder of the call's own holds what was written, in order. Condition: the new length takes at most 2^47 bytes. (The walks are turned from the shelf's, whose copyCheck is another text.)
  Layer 4 (tree): Text, at a tree that is no list. Conditions: what token answers at it (a contract), and that the text takes at most 2^40 bytes.
  Layer 27 (answers): a name's text, at a plain name. Conditions: the text's own size.
  Maps of the call's own (JM): what 'range' over one does: each entry comes once, in some order. No condition.
  Layer 27 (answers): the words for errors. No condition.
  Layer 27 (answers): words, walked. No condition. (Laid by gen_er2.py.)
-/
import Derived.Test.YtjdgfdpbiidldaaGreatDoorRdM6
import Derived.Lib.ConvBytes
import Derived.RangeFuncNested
import Derived.RangeFuncBound
import Derived.RangeFuncCalls
import Derived.RangeFuncLeaves
import Derived.OwnWalkIn
import Derived.TacticsInMore
import Derived.LoopNIn
import Derived.LoopIn
import Derived.Laws.EntriesVeiled
import Derived.Test.YtjdgfdpbiidldaaGreatDoorRdM1
import Derived.Shelf.RegionOpenPlain
import Derived.Lib.Strings
import Derived.Lib.Slices
import Derived.Lib.Walk
import Derived.Lib.Builder
import Derived.Lib.AppendStr
import Derived.Lib.FrozenHead2
import Derived.Lib.OthersKept
import Derived.Laws.Externs
import Derived.Test.YtjdgfdpbiidldaaGreatDoorRdM4
import Derived.Test.YtjdgfdpbiidldaaGreatDoorRdM3
import Derived.Maps.RangeWalk
import Derived.Test.YtjdgfdpbiidldaaGreatDoorRdM2
namespace Go.Proofs.YtjdgfdpbiidldaaGreatDoor
open Go.RowKit

theorem belowDN {B : Nat} {a w : World} (h : Below B a w) (n : Nat) : Below B a (w.drewN n) := ⟨h.os, h.tape, h.output, h.size, h.block⟩

theorem bytesWorld_below (w : World) (e : TypeId) (s : ByteArray) : Below w.heap.size w (Lib.bytesWorld w e s) :=
  ⟨rfl, rfl, rfl, by rw [Lib.bytesWorld_size]; omega, fun k hk => Lib.bytesWorld_at_old w e s k hk⟩

/-- Tokens of a text, from a text: the bytes' row, then the tokens -/
theorem tokens_of_plain (s : ByteArray) (w : World) (hl : s.size ≤ 1048576) (hp : plainB s.toList = true) :
    Calls Tryz.prog 193 #[.slice (some ⟨w.heap.size, 0, none⟩) s.size (grownCap w s.size 0 5)] (Lib.bytesWorld w 5 s) fun e w' => ∃ v, e = .returned (.tuple #[v, .int .i64 s.size, .int .i64 0]) ∧ w'.ownsRow w.heap.size 34 3 v 1 [.int .u8 3, .string s, .int .i64 0] ∧ Below w.heap.size w w' := by
  have hsz := toList_length s
  have h := tokens_plain w.heap.size 0 (grownCap w s.size 0 5) s.toList (Lib.bytesWorld w 5 s) ?_ (by rw [Lib.bytesWorld_size]; omega) (by rw [hsz]; exact grownCap_ge _ _ _ _) (by omega) hp
  · rw [hsz] at h
    refine h.mono ?_
    rintro e w' ⟨v, rfl, h1, h2⟩
    have hb := bytesWorld_below w 5 s
    refine ⟨v, rfl, ?_, hb.trans (h2.mono hb.size)⟩
    have e1 : (⟨s.toList.toArray⟩ : ByteArray) = s := by rw [ByteArray.toList_eq]
    rw [e1] at h1
    exact ownsRow_mono h1 hb.size
  · intro j x hx
    have hj : j < s.size := by have := (List.getElem?_eq_some_iff.1 hx).1; omega
    rw [Nat.zero_add, Lib.bytesWorld_cell w 5 s j hj]
    have e2 : s.data.toList.getD j 0 = x := by
      rw [ByteArray.toList_eq] at hx
      rw [List.getD_eq_getElem?_getD, hx]; rfl
    rw [e2]

set_option maxHeartbeats 1000000 in
set_option maxRecDepth 100000 in
theorem token_plain (s : ByteArray) (at_ : Int) (w : World) (hl : s.size ≤ 1048576) (hp : plainB s.toList = true) :
    Calls Tryz.prog 128 #[.agg #[.int .u8 3, .string s, .int .i64 at_]] w fun e w' => e = .returned (.tuple #[.string s, .bool true]) ∧ Below w.heap.size w w' := by
  have hpl := fun w => plain_any s w (by omega)
  simp only [hp] at hpl
  have htk := fun w => tokens_of_plain s w hl hp
  have hcv := fun w => Lib.run_convert_string_bytes (P := Tryz.prog) w 9 72 5 s Tryz.underlying9 Tryz.underlying72 Tryz.underlying5
  have Hpl := Lib.hid hpl
  have Htk := Lib.hid htk
  clear hpl htk hl hp
  go_enter Tryz.func128, Tryz.ntmps128
  go_wp2_with (first | (go_at_call 191; refine (Hpl.out _).mono ?_; rintro e w1 ⟨rfl, hb1⟩))
  refine (Htk.out w1).mono ?_
  rintro e w2 ⟨v, rfl, hown, hb2⟩
  obtain ⟨g', cap', rfl⟩ := ownsRow_pos hown
  have c0 := hown.cellAt 0 (by simp)
  have c1 := hown.cellAt 1 (by simp)
  simp at c0 c1
  have hlt := hb1.size
  simp at hlt
  have d0 : w2.cell? ⟨w.heap.size, 0, none⟩ = some (.int .u8 3) := by
    rw [hb2.cell (p := ⟨w.heap.size, 0, none⟩) (by show w.heap.size < _; omega), hb1.cell (p := ⟨w.heap.size, 0, none⟩) (by simp), Lib.cell_of_heap (heap_alloc_new w _)]; rfl
  have d1 : w2.cell? ⟨w.heap.size, 1, none⟩ = some (.string s) := by
    rw [hb2.cell (p := ⟨w.heap.size, 1, none⟩) (by show w.heap.size < _; omega), hb1.cell (p := ⟨w.heap.size, 1, none⟩) (by simp), Lib.cell_of_heap (heap_alloc_new w _)]; rfl
  have hb3 : Below w.heap.size w w2 := (((Below.refl _ w).alloc (Nat.le_refl _) _).trans (hb1.mono (by simp))).trans (hb2.mono (by omega))
  clear hb1 hb2 hown hlt
  obtain ⟨T, hT⟩ : ∃ T, T = w.heap.size := ⟨_, rfl⟩
  rw [← hT] at d0 d1 hb3 ⊢
  have HT := Lib.hid hT
  clear hT hcv
  go_wp2
  go_quiet (fail)
  go_wp2
  go_ret2
  exact ⟨rfl, HT.out ▸ belowDN hb3 nq⟩
end Go.Proofs.YtjdgfdpbiidldaaGreatDoor

namespace Go.Proofs.YtjdgfdpbiidldaaGreatDoor
open Go.RowKit Go.Shelf

attribute [local go_sem] Oper.semAt_some

/-- what the text of a tree is made of -/
structure PartD where
  list : Bool
  kind : Int
  text : ByteArray
  at_ : Int
  kao : Option Addr
  kn : Nat
  kcap : Nat
  ends : Bool
  first : Bool
  depth : Int

def PartD.tree (p : PartD) : Array Value := #[.bool p.list, .int .u8 p.kind, .string p.text, .int .i64 p.at_, .slice p.kao p.kn p.kcap]
def PartD.encs (p : PartD) : Array Value := #[.agg #[.bool p.list, .int .u8 p.kind, .string p.text, .int .i64 p.at_, .slice p.kao p.kn p.kcap, .bool p.ends, .bool p.first, .int .i64 p.depth]]

theorem room_of_none {F : Fence} (hd : F.depth = none) (k : Nat) : F.room k := fun d h => by rw [hd] at h; cases h
theorem RoundIn.anyDepth {F : Fence} (hd : F.depth = none) {m m' : Nat} {P : Program} {l : Nat} {f : FuncId} {tmps : Array Value} {assign body : Code} {w : World} {R : Ending → World → Prop}
    (h : RoundIn F m P l f tmps assign body w R) : RoundIn F m' P l f tmps assign body w R := ⟨h.1, fun c cs _ => h.2 c cs (room_of_none hd _)⟩
theorem YieldAt.anyDepth {F : Fence} (hd : F.depth = none) {m : Nat} (m' : Nat) {P : Program} {l : Nat} {args : Array Value} {W : World} {R : Ending → World → Prop} (h : YieldAt F m P l args W R) : YieldAt F m' P l args W R := by
  obtain ⟨fn, tmps, assign, body, hy, hR⟩ := h
  exact ⟨fn, tmps, assign, body, hy, RoundIn.anyDepth hd hR⟩

/-- what lies in cells of other kinds than bytes, but for a few blocks, stays -/
def KpT (S : Nat → Prop) (W W' : World) : Prop := W.heap.size ≤ W'.heap.size ∧ ∀ k cs t fr, W.heap[k]? = some (.cells cs t fr) → t ≠ 5 → ¬ S k → W'.heap[k]? = some (.cells cs t fr)
theorem KpT.refl (S : Nat → Prop) (W : World) : KpT S W W := ⟨Nat.le_refl _, fun _ _ _ _ h _ _ => h⟩
theorem KpT.trans {S : Nat → Prop} {A B C : World} (h : KpT S A B) (k : KpT S B C) : KpT S A C := ⟨Nat.le_trans h.1 k.1, fun i cs t fr hi ht hs => k.2 i cs t fr (h.2 i cs t fr hi ht hs) ht hs⟩
theorem KpT.of_grownBy {S : Nat → Prop} {W W' : World} {row : Option Nat} (hg : W.grownBy W' row) (hr : ∀ r, row = some r → S r ∨ ∃ o, W.heap[r]? = some o ∧ o.isCells = false) : KpT S W W' := by
  refine ⟨hg.size, fun k cs t fr hk _ hs => ?_⟩
  rw [hg.block k (Array.getElem?_eq_some_iff.1 hk).1 (fun e => ?_)]
  · exact hk
  · rcases hr k e.symm with h | ⟨o, ho, hc⟩
    · exact hs h
    · rw [hk] at ho; cases ho; cases hc
theorem KpT.alloc (S : Nat → Prop) (W : World) (o : Obj) : KpT S W (W.alloc o) := KpT.of_grownBy (World.grownBy_alloc W o none) (fun r e => by cases e)
theorem KpT.boxed {S : Nat → Prop} {W W' : World} (h : KpT S W W') {B : Nat} {t : TypeId} {v : Value} (hb : Boxed W B t v) (ht : t ≠ 5) (hs : ¬ S B) : Boxed W' B t v := h.2 B _ _ _ hb ht hs

set_option maxHeartbeats 1000000 in
set_option maxRecDepth 100000 in
theorem visit_leaf (F : Fence) (hd : F.depth = none) (h189 : F.fn 189) (hro : F.round = none) (n l : Nat) (S : Nat → Prop) (p : PartD) (hp : p.list = false) (he : p.ends = false) (R : Ending → World → Prop) (W : World) (by_ bv : Nat)
    (hby : Boxed W by_ 321 (.func (.yield l) #[] #[]))
    (hy : ∀ W1, W.grownBy W1 none → YieldAt F (n - 1) Tryz.prog l p.encs W1 fun e W' => (e = .returned (.bool true) ∧ KpT S W1 W' ∧ R e W') ∨ (e = .returned (.bool false) ∧ R e W')) (hS : ∀ k, W.heap.size ≤ k → ¬ S k) :
    CallsIn F n Tryz.prog 189 #[.agg p.tree, .bool p.first, .int .i64 p.depth, .pointer (some ⟨by_, 0, none⟩), .pointer (some ⟨bv, 0, none⟩)] W R := by
  have hdd : ∀ k : Nat, (F.depth.isSome = true → 1 ≤ k) := fun k h => by rw [hd] at h; cases h
  have hy1 := hy (W.alloc (.cells p.tree 36)) (World.grownBy_alloc W _ none)
  have hcy := (hby.alloc (.cells p.tree 36)).cell
  obtain ⟨list, kind, text, at_, kao, kn, kcap, ends, first, depth⟩ := p
  simp only at hp he
  subst hp he
  simp only [PartD.tree, PartD.encs] at hy1 hcy ⊢
  obtain ⟨fn, tmps, assign, body, hyy, hR⟩ := hy1
  refine callsIn_of_wp Tryz.func189 rfl h189 ?_ hro
  simp only [Tryz.ntmps189, List.size_toArray, List.length_cons, List.length_nil, Nat.reduceAdd, Nat.reduceSub, Array.replicate_succ, Array.replicate_zero, List.push_toArray, List.append_toArray, List.nil_append, List.cons_append]
  gi_wp2
  refine hR.mono ?_
  rintro e W3 (⟨rfl, hk, hr⟩ | ⟨rfl, hr⟩)
  · have hb := hk.2 W.heap.size _ 36 (0, 0) (heap_alloc_new W _) (by decide) (hS _ (Nat.le_refl _))
    have c0 : W3.cell? ⟨W.heap.size, 0, none⟩ = some (.bool false) := by rw [Lib.cell_of_heap hb]; rfl
    gi_wp2
    exact hr
  · gi_wp2
    exact hr

set_option maxHeartbeats 1000000 in
set_option maxRecDepth 100000 in
/-- the iterator at a tree that is no list: one part -/
theorem leaf_stops {α : Type} (f : α → PartD) (a : α) (F : Fence) (hd : F.depth = none) (h188 : F.fn 188) (h189 : F.fn 189) (hro : F.round = none) (n : Nat) (S : Nat → Prop) (p : PartD) (hpa : f a = p) (hp : p.list = false) (he : p.ends = false) (hf : p.first = true) (hdp : p.depth = 0) (Bt : Nat) (w : World)
    (hBt : w.heap[Bt]? = some (.cells p.tree 36 (0, 0))) (hS : ∀ k, w.heap.size ≤ k → ¬ S k) :
    SeqStopsK F n Tryz.prog 188 #[.pointer (some ⟨Bt, 0, none⟩)] (fun x => (f x).encs) (KpT S) (fun ys => ys = [a]) (fun pre => pre <+: [a]) 1 w := by
  intro l J Jx W hW hJ _ hY h0
  have hdd : ∀ k : Nat, (F.depth.isSome = true → 1 ≤ k) := fun k h => by rw [hd] at h; cases h
  have hsz := hW.size
  have hBl : Bt < w.heap.size := (Array.getElem?_eq_some_iff.1 hBt).1
  have hB0 : W.heap[Bt]? = some (.cells p.tree 36 (0, 0)) := (hW.block Bt hBl).trans hBt
  have hY0 : ∀ W1, W.grownBy W1 none → YieldAt F (n - 1 - 1) Tryz.prog l p.encs W1 fun e W' => (e = .returned (.bool true) ∧ KpT S W1 W' ∧ ((e = .returned (.bool true) ∧ J [a] W') ∨ (e = .returned (.bool false) ∧ Jx [a] W'))) ∨ (e = .returned (.bool false) ∧ ((e = .returned (.bool true) ∧ J [a] W') ∨ (e = .returned (.bool false) ∧ Jx [a] W'))) := by
    intro W1 hg
    have hJ1 : J [] W1 := hJ [] W W1 none h0 hg (fun r e => by cases e)
    have hya := hY [] a W1 hJ1 (by simp)
    simp only [hpa] at hya
    refine YieldAt.mono (YieldAt.anyDepth hd _ hya) ?_
    rintro e W' (⟨rfl, h1, h2⟩ | ⟨rfl, h1⟩)
    · exact .inl ⟨rfl, h2, .inl ⟨rfl, h1⟩⟩
    · exact .inr ⟨rfl, .inr ⟨rfl, h1⟩⟩
  have hv : ∀ (y : Value), CallsIn F (n - 1) Tryz.prog 189 #[.agg p.tree, .bool p.first, .int .i64 p.depth, .pointer (some ⟨W.heap.size, 0, none⟩), .pointer (some ⟨W.heap.size + 1, 0, none⟩)] ((W.alloc (.cells #[.func (.yield l) #[] #[]] 321)).alloc (.cells #[y] 322)) fun e W' => (e = .returned (.bool true) ∧ J [a] W') ∨ (e = .returned (.bool false) ∧ Jx [a] W') := by
    intro y
    have hb := ((Boxed.new W 321 (.func (.yield l) #[] #[])).alloc (.cells #[y] 322))
    have hg2 : W.grownBy ((W.alloc (.cells #[.func (.yield l) #[] #[]] 321)).alloc (.cells #[y] 322)) none :=
      ⟨rfl, rfl, rfl, by simp; omega, fun k hk _ => by rw [Lib.alloc_old _ _ k (by simp; omega), Lib.alloc_old _ _ k hk]⟩
    refine visit_leaf F hd h189 hro (n - 1) l S p hp he _ _ W.heap.size (W.heap.size + 1) hb (fun W1 hg => hY0 W1 ?_) (fun k hk => hS k ?_)
    · exact ⟨hg.os.trans hg2.os, hg.tape.trans hg2.tape, hg.output.trans hg2.output, Nat.le_trans hg2.size hg.size, fun k hk hn => (hg.block k (by have := hg2.size; omega) hn).trans (hg2.block k hk hn)⟩
    · have := hg2.size; omega
  have c0 : ∀ c, c < 5 → ∀ o1 o2, ((W.alloc o1).alloc o2).cell? ⟨Bt, c, none⟩ = p.tree[c]? := fun c _ o1 o2 => by
    rw [Lib.cell_of_heap (show ((W.alloc o1).alloc o2).heap[Bt]? = _ by rw [Lib.alloc_old _ _ Bt (by simp; omega), Lib.alloc_old _ _ Bt (by omega)]; exact hB0)]
  have t0 := c0 0 (by omega)
  have t1 := c0 1 (by omega)
  have t2 := c0 2 (by omega)
  have t3 := c0 3 (by omega)
  have t4 := c0 4 (by omega)
  clear c0 hB0 hY0 hY h0 hpa
  obtain ⟨list, kind, text, at_, kao, kn, kcap, ends, first, depth⟩ := p
  simp only at hf hdp
  subst hf hdp
  simp only [PartD.tree, List.getElem?_toArray, List.getElem?_cons_zero, List.getElem?_cons_succ] at t0 t1 t2 t3 t4
  simp only [PartD.tree] at hv
  show CallsIn F n Tryz.prog 188 #[.func (.yield l) #[] #[], .pointer (some ⟨Bt, 0, none⟩)] W _
  refine callsIn_of_wp Tryz.func188 rfl h188 ?_ hro
  simp only [Tryz.ntmps188, List.size_toArray, List.length_cons, List.length_nil, Nat.reduceAdd, Nat.reduceSub, Array.replicate_succ, Array.replicate_zero, List.push_toArray, List.append_toArray, List.nil_append, List.cons_append]
  gi_wp2_with ((try refine ⟨hdd _, ?_⟩); gi_at_call 189; refine (hv _).mono ?_; rintro e W1 (⟨rfl, hJ1⟩ | ⟨rfl, hx⟩))
  all_goals go_end0
  all_goals first | exact ⟨⟨_, rfl⟩, .inl ⟨_, rfl, hJ1⟩⟩ | exact ⟨⟨_, rfl⟩, .inr ⟨_, List.prefix_refl _, hx⟩⟩

set_option maxHeartbeats 1000000 in
theorem parts_in (F : Fence) (h126 : F.fn 126) (hro : F.round = none) (n : Nat) (p : PartD) (w : World) :
    CallsIn F n Tryz.prog 126 #[.agg p.tree] w fun e w' => e = .returned (.func (.func 188) #[] #[.pointer (some ⟨w.heap.size, 0, none⟩)]) ∧ w' = w.alloc (.cells p.tree 36) := by
  obtain ⟨list, kind, text, at_, kao, kn, kcap, ends, first, depth⟩ := p
  simp only [PartD.tree]
  refine callsIn_of_wp Tryz.func126 rfl h126 ?_ hro
  simp only [Tryz.ntmps126, List.size_toArray, List.length_cons, List.length_nil, Nat.reduceAdd, Nat.reduceSub, Array.replicate_succ, Array.replicate_zero, List.push_toArray, List.append_toArray, List.nil_append, List.cons_append]
  gi_wp2
  go_ret
  exact ⟨rfl, rfl⟩
end Go.Proofs.YtjdgfdpbiidldaaGreatDoor

namespace Go.Proofs.YtjdgfdpbiidldaaGreatDoor
open Go.RowKit

theorem info5 : (Tryz.prog.info? 5).map (fun i => (i.zero, i.size, i.bytes)) = some (some (.int .u8 0), 1, 1) := by kernel_rfl
theorem sizeBuilder : (Tryz.prog.info? 240).map (·.size) = some 2 := by kernel_rfl
theorem liesBuilder : liesAt Tryz.prog Tryz.prog.depth 240 (2 / Tryz.prog.cellsOf 240) 0 240 1 = true := by kernel_rfl

set_option maxHeartbeats 1000000 in
set_option maxRecDepth 100000 in
theorem copyCheck_used (b : Nat) (w : World) (h0 : w.cell? ⟨b, 0, none⟩ = some (.pointer (some ⟨b, 0, none⟩))) :
    Calls Tryz.prog 190 #[.pointer (some ⟨b, 0, none⟩)] w fun e w' => e = .returned (.tuple #[]) ∧ w' = w := by
  obtain ⟨j, hj, _⟩ := Option.map_eq_some_iff.1 sizeBuilder
  go_enter Tryz.func190, Tryz.ntmps190
  go_wp2
  rw [Lib.run_neq_ptr_same w _ Tryz.underlying238 hj]
  go_wp2
  go_end0
  exact ⟨rfl, rfl⟩

set_option maxHeartbeats 1000000 in
set_option maxRecDepth 100000 in
theorem copyCheck_fresh (b : Nat) (w : World) (h0 : w.cell? ⟨b, 0, none⟩ = some (.pointer none)) (hsh : w.shape? b = some (240, 2)) (hfz : w.frozen? ⟨b, 0, none⟩ = false) :
    Calls Tryz.prog 190 #[.pointer (some ⟨b, 0, none⟩)] w fun e w' => e = .returned (.tuple #[]) ∧ w' = w.setCell ⟨b, 0, none⟩ (.pointer (some ⟨b, 0, none⟩)) := by
  obtain ⟨j, hj, hjs⟩ := Option.map_eq_some_iff.1 sizeBuilder
  go_enter Tryz.func190, Tryz.ntmps190
  go_wp2
  rw [Lib.run_to_unsafe w ⟨b, 0, none⟩ Tryz.underlying238 Tryz.underlying376 hj (by rw [hjs]; decide) hsh (Nat.zero_lt_succ 1)]
  simp only [Result.andThen]
  rw [Oper.upon_value]
  go_wp2
  rw [run_callFunc_extern Tryz.func253 (by kernel_rfl) (by kernel_rfl) (by kernel_rfl) (e := Extern.AbiNoEscape.same) (by kernel_rfl)]
  rw [Lib.run_noEscape]
  simp only [Result.andThen]
  rw [Oper.upon_value]
  go_wp2
  rw [Lib.run_from_unsafe w ⟨b, 0, none⟩ Tryz.underlying376 Tryz.underlying238 hj hsh liesBuilder]
  simp only [Result.andThen]
  rw [Oper.upon_value]
  go_wp2
  go_end0
  exact ⟨rfl, rfl⟩

theorem copyCheck_k (B b : Nat) (bs : List Value) (w : World) (h : Lib.IsBuilderF 240 5 B b bs w) :
    Calls Tryz.prog 190 #[.pointer (some ⟨b, 0, none⟩)] w fun e w' => e = .returned (.tuple #[]) ∧ (Lib.BuilderAtF 240 5 B b (.pointer (some ⟨b, 0, none⟩)) bs w' ∧ Below B w w' ∧ Lib.OthersKept 5 (some b) w w') := by
  rcases h with h | h
  · refine (copyCheck_fresh b w h.cell0 h.shape h.frozen0).mono ?_
    rintro e w' ⟨rfl, rfl⟩
    exact ⟨rfl, h.used _, (Below.refl B w).setCell (p := ⟨b, 0, none⟩) h.1 _, (Lib.OthersKept.refl _ _ w).setCell ⟨b, 0, none⟩ rfl _⟩
  · refine (copyCheck_used b w h.cell0).mono ?_
    rintro e w' ⟨rfl, rfl⟩
    exact ⟨rfl, h, Below.refl B _, Lib.OthersKept.refl _ _ _⟩

set_option maxHeartbeats 2000000 in
set_option maxRecDepth 100000 in
theorem writeByte_k (B b : Nat) (bs : List Value) (c : Int) (w : World) (h : Lib.IsBuilderF 240 5 B b bs w) (hlen : bs.length + 1 ≤ 140737488355328) (hBw : B ≤ w.heap.size) :
    Calls Tryz.prog 127 #[.pointer (some ⟨b, 0, none⟩), .int .u8 c] w fun e w' => e = .returned .nilIface ∧ (Lib.BuilderAtF 240 5 B b (.pointer (some ⟨b, 0, none⟩)) (bs ++ [.int .u8 c]) w' ∧ Below B w w' ∧ Lib.OthersKept 5 (some b) w w') := by
  obtain ⟨i0, hi, hz0, hz1, hz2⟩ := info_parts info5
  go_enter Tryz.func127, Tryz.ntmps127
  go_wp2_with (go_at_call 190; refine (copyCheck_k B b bs _ h).mono ?_)
  rintro e w1 ⟨rfl, h1, hb1, hk1⟩
  obtain ⟨hB, v, hbk, hown, hne⟩ := h1
  have c0 : w1.cell? ⟨b, 0, none⟩ = some (.pointer (some ⟨b, 0, none⟩)) := by rw [Lib.cell_of_heap hbk]; rfl
  have c1 : w1.cell? ⟨b, 1, none⟩ = some v := by rw [Lib.cell_of_heap hbk]; rfl
  go_wp2_with (at_builtin; refine wpList_append_ownF _ rfl _ _ 72 rfl B 5 i0 (.int .u8 0) 1 1 Tryz.underlying72 hi hz0 hz1 hz2 rfl (by decide) _ _ _ rfl (hown.alloc _) ⟨w1.heap.size, 0, none⟩ 1 1 [.int .u8 c] rfl rfl ?c1 ?c2 ?c3 ?c4 ?c5 ?_)
  case c1 =>
    intro j u hj
    match j, hj with
    | 0, hj => simp at hj; subst hj; simp [Addr.add]
  case c2 => intro u hu; simp at hu; subst hu; rfl
  case c3 => unfold maxLen; omega
  case c4 => omega
  case c5 => have := hb1.size; simp; omega
  intro v' w2 hown' hgrow _
  have hlt : b < w1.heap.size := by
    rcases Nat.lt_or_ge b w1.heap.size with h' | h'
    · exact h'
    · simp [Array.getElem?_eq_none h'] at hbk
  have hb2 : w2.heap[b]? = some (.cells #[.pointer (some ⟨b, 0, none⟩), v] 240 (0, 0)) := by
    rw [hgrow.block b (by simp; omega) (fun e => hne e.symm), Lib.alloc_old w1 _ b hlt]
    exact hbk
  have d0 : w2.cell? ⟨b, 0, none⟩ = some (.pointer (some ⟨b, 0, none⟩)) := by rw [Lib.cell_of_heap hb2]; rfl
  have d1 : w2.cell? ⟨b, 1, none⟩ = some v := by rw [Lib.cell_of_heap hb2]; rfl
  have f1 : w2.frozen? ⟨b, 1, none⟩ = false := Lib.frozen_of_heap hb2 1
  obtain ⟨g, cap, rfl⟩ : ∃ g cap, v' = .slice (some ⟨g, 0, none⟩) (bs.length + 1) cap := by
    rcases hown'.2 with ⟨_, h0⟩ | ⟨g, cap, cur, fz, hv, _⟩
    · omega
    · exact ⟨g, cap, hv⟩
  go_wp2
  go_ret
  refine ⟨rfl, ?_, ?_, ((hk1.alloc _).grown hgrow (Lib.ownsRowF_kind (hown.alloc _))).setCell ⟨b, 1, none⟩ rfl _⟩
  · exact Lib.BuilderAtF.put (T := 240) (e := 5) hB hb2 (bs' := bs ++ [.int .u8 c]) (by simpa using hown') (by decide)
  · exact ((hb1.alloc (by have := hb1.size; omega) _).grown hgrow (by have := hb1.size; simp; omega) (fun k hk => (hown.lt k hk).1)).setCell (p := ⟨b, 1, none⟩) hB _

set_option maxHeartbeats 2000000 in
set_option maxRecDepth 100000 in
theorem writeString_k (B b : Nat) (bs : List Value) (s : ByteArray) (w : World) (h : Lib.IsBuilderF 240 5 B b bs w) (hlen : bs.length + s.size ≤ 140737488355328) (hBw : B ≤ w.heap.size) :
    Calls Tryz.prog 129 #[.pointer (some ⟨b, 0, none⟩), .string s] w fun e w' => e = .returned (.tuple #[.int .i64 s.size, .nilIface]) ∧ (Lib.BuilderAtF 240 5 B b (.pointer (some ⟨b, 0, none⟩)) (bs ++ Lib.strCells s) w' ∧ Below B w w' ∧ Lib.OthersKept 5 (some b) w w') := by
  obtain ⟨i0, hi, hz0, hz1, hz2⟩ := info_parts info5
  go_enter Tryz.func129, Tryz.ntmps129
  go_wp2_with (go_at_call 190; refine (copyCheck_k B b bs _ h).mono ?_)
  rintro e w1 ⟨rfl, h1, hb1, hk1⟩
  obtain ⟨hB, v, hbk, hown, hne⟩ := h1
  have c0 : w1.cell? ⟨b, 0, none⟩ = some (.pointer (some ⟨b, 0, none⟩)) := by rw [Lib.cell_of_heap hbk]; rfl
  have c1 : w1.cell? ⟨b, 1, none⟩ = some v := by rw [Lib.cell_of_heap hbk]; rfl
  go_wp2_with (at_builtin; refine Lib.wpList_append_own_stringF _ rfl _ _ 72 9 rfl B 5 i0 Tryz.underlying72 Tryz.underlying9 hi hz0 hz1 hz2 _ _ _ rfl hown s rfl ?c3 ?c4 ?c5 ?_)
  case c3 => unfold maxLen; omega
  case c4 => omega
  case c5 => have := hb1.size; omega
  intro v' w2 hown' hgrow _
  have hlt : b < w1.heap.size := by
    rcases Nat.lt_or_ge b w1.heap.size with h' | h'
    · exact h'
    · simp [Array.getElem?_eq_none h'] at hbk
  have hb2 : w2.heap[b]? = some (.cells #[.pointer (some ⟨b, 0, none⟩), v] 240 (0, 0)) := by
    rw [hgrow.block b hlt (fun e => hne e.symm)]
    exact hbk
  have d0 : w2.cell? ⟨b, 0, none⟩ = some (.pointer (some ⟨b, 0, none⟩)) := by rw [Lib.cell_of_heap hb2]; rfl
  have d1 : w2.cell? ⟨b, 1, none⟩ = some v := by rw [Lib.cell_of_heap hb2]; rfl
  have f1 : w2.frozen? ⟨b, 1, none⟩ = false := Lib.frozen_of_heap hb2 1
  obtain ⟨ao, n', cap, rfl⟩ : ∃ ao n' cap, v' = .slice ao n' cap := by
    rcases hown'.2 with ⟨hv, _⟩ | ⟨g, cap, cur, fz, hv, _⟩
    · exact ⟨_, _, _, hv⟩
    · exact ⟨_, _, _, hv⟩
  go_wp2
  go_ret2
  refine ⟨rfl, ?_, ?_, (hk1.grown hgrow (Lib.ownsRowF_kind hown)).setCell ⟨b, 1, none⟩ rfl _⟩
  · exact Lib.BuilderAtF.put (T := 240) (e := 5) hB hb2 (bs' := bs ++ Lib.strCells s) (by simpa [Lib.strCells_length] using hown') (by decide)
  · exact (hb1.grown hgrow (by have := hb1.size; omega) (fun k hk => (hown.lt k hk).1)).setCell (p := ⟨b, 1, none⟩) hB _
end Go.Proofs.YtjdgfdpbiidldaaGreatDoor

namespace Go.Proofs.YtjdgfdpbiidldaaGreatDoor
open Go.RowKit Go.Shelf

attribute [local go_sem] Oper.semAt_some

theorem isBuilderF_grown {B b : Nat} {bs : List Value} {W W' : World} {row : Option Nat} (h : Lib.IsBuilderF 240 5 B b bs W) (hg : W.grownBy W' row) (hr : ∀ r, row = some r → ∃ o : Obj, W.heap[r]? = some o ∧ o.isCells = false) : Lib.IsBuilderF 240 5 B b bs W' := by
  have one : ∀ q, Lib.BuilderAtF 240 5 B b q bs W → Lib.BuilderAtF 240 5 B b q bs W' := by
    rintro q ⟨hB, v, hb, hown, hne⟩
    refine ⟨hB, v, ?_, hown.kept hg ?_, hne⟩
    · rw [hg.block b (Array.getElem?_eq_some_iff.1 hb).1 (fun e => ?_)]
      · exact hb
      · obtain ⟨o, ho, hc⟩ := hr b e.symm
        rw [hb] at ho; cases ho; cases hc
    · cases hv : v.ownBlock with
      | none => exact .inl rfl
      | some g =>
        refine .inr (fun e => ?_)
        obtain ⟨o, ho, hc⟩ := hr g e.symm
        rcases hown.2 with ⟨rfl, _⟩ | ⟨g', cap, cur, fz, rfl, _, hh, _⟩
        · simp [Value.ownBlock] at hv
        · simp [Value.ownBlock] at hv
          subst hv
          rw [hh] at ho; cases ho; cases hc
  exact h.elim (fun x => .inl (one _ x)) (fun x => .inr (one _ x))

theorem setCell_id {W : World} {b : Nat} {t : TypeId} {v : Value} {fr : Nat × Nat} (h : W.heap[b]? = some (.cells #[v] t fr)) : W.setCell ⟨b, 0, none⟩ v = W := by
  have e : (W.setCell ⟨b, 0, none⟩ v).heap = W.heap := by
    apply Array.ext_getElem?
    intro j
    by_cases hj : j = b
    · subst hj
      show (W.heap.modify j _)[j]? = _
      rw [Array.getElem?_modify]
      simp [h]
    · exact Below.heap_setCell _ _ _ _ hj
  show ({ W with heap := (W.setCell ⟨b, 0, none⟩ v).heap } : World) = W
  rw [e]
theorem boxed_other {W : World} {b b' : Nat} {t : TypeId} {v : Value} (h : Boxed W b t v) (o : Nat) (u : Value) (hne : b ≠ b') : Boxed (W.setCell ⟨b', o, none⟩ u) b t v := by
  show _ = _
  rw [Below.heap_setCell _ _ _ _ hne]; exact h
theorem boxed_okept {W W' : World} {b bb : Nat} {t : TypeId} {v : Value} (h : Boxed W b t v) (k : Lib.OthersKept 5 (some bb) W W') (hne : b ≠ bb) (ht : t ≠ 5) : Boxed W' b t v :=
  k b _ h (fun e => hne (Option.some.inj e)) (fun c fz e => by cases e; exact ht rfl)

theorem boxed_own {W W' : World} {row : Option Nat} {b : Nat} {t : TypeId} {v : Value} (h : Boxed W b t v) (hg : W.grownBy W' row) (hr : ∀ r, row = some r → ∃ o : Obj, W.heap[r]? = some o ∧ o.isCells = false) : Boxed W' b t v :=
  h.kept hg (fun e => by
    obtain ⟨o, ho, hc⟩ := hr b e.symm
    rw [show W.heap[b]? = _ from h] at ho; cases ho; cases hc)

theorem grownBy_of_all {W W' : World} (h : Below W.heap.size W W') : W.grownBy W' none := ⟨h.os, h.tape, h.output, h.size, fun k hk _ => h.block k hk⟩
theorem keepsOthers_of_grownBy {W W' : World} {row : Option Nat} (hg : W.grownBy W' row) (hr : ∀ r, row = some r → ∃ cs t fr, W.heap[r]? = some (.cells cs t fr)) : KeepsOthers W W' :=
  ⟨hg.size, fun k o hk ho => by
    rw [hg.block k (Array.getElem?_eq_some_iff.1 hk).1 (fun e => ?_)]
    · exact hk
    · obtain ⟨cs, t, fr, hh⟩ := hr k e.symm
      rw [hk] at hh; cases hh; cases ho⟩
theorem keepsOthers_of_othersKept {b : Nat} {W W' : World} (h : Lib.OthersKept 5 (some b) W W') (hs : W.heap.size ≤ W'.heap.size) (hb : ∃ cs t fr, W.heap[b]? = some (.cells cs t fr)) : KeepsOthers W W' :=
  ⟨hs, fun k o hk ho => h k o hk (fun e => by obtain ⟨cs, t, fr, hh⟩ := hb; cases e; rw [hk] at hh; cases hh; cases ho) (fun c fz e => by subst e; cases ho)⟩
theorem kpT_of_othersKept {S : Nat → Prop} {b : Nat} {W W' : World} (h : Lib.OthersKept 5 (some b) W W') (hs : W.heap.size ≤ W'.heap.size) (hb : S b) : KpT S W W' :=
  ⟨hs, fun k cs t fr hk ht hS => h k _ hk (fun e => by cases e; exact hS hb) (fun c fz e => by cases e; exact ht rfl)⟩

set_option maxHeartbeats 4000000 in
set_option maxRecDepth 100000 in
theorem text_leaf (p : PartD) (str : ByteArray) (ok : Bool) (w : World) (hp : p.list = false) (hk : p.kn = 0) (he : p.ends = false) (hf : p.first = true) (hdp : p.depth = 0) (hs : str.size ≤ 1099511627776)
    (htok : ∀ W, Calls Tryz.prog 128 #[.agg #[.int .u8 p.kind, .string p.text, .int .i64 p.at_]] W fun e W' => e = .returned (.tuple #[.string str, .bool ok]) ∧ Below W.heap.size W W') :
    Calls Tryz.prog 58 #[.agg p.tree] w fun e w' => e = .returned (.tuple (if ok then (if 1048576 < str.size then #[.string ⟨#[]⟩, .int .i64 3] else #[.string str, .int .i64 0]) else #[.string ⟨#[]⟩, .int .i64 5])) ∧ Below w.heap.size w w' := by
  refine (callsIn_wide (n := 8)).1 ?_
  have hpt : p.tree = #[.bool false, .int .u8 p.kind, .string p.text, .int .i64 p.at_, .slice p.kao 0 p.kcap] := by rw [PartD.tree, hp, hk]
  have hpe : p.encs = #[.agg #[.bool false, .int .u8 p.kind, .string p.text, .int .i64 p.at_, .slice p.kao 0 p.kcap, .bool false, .bool true, .int .i64 0]] := by rw [PartD.encs, hp, hk, he, hf, hdp]
  have hpi := fun w => parts_in Fence.wide trivial rfl 7 p w
  have hst := fun (S : Nat → Prop) (Bt : Nat) (w : World) => leaf_stops (α := Unit) (fun _ => p) () Fence.wide rfl trivial trivial rfl 7 S p rfl hp he hf hdp Bt w
  rw [hpt] at hpi hst ⊢
  refine callsIn_of_wp_marks Tryz.func58 rfl trivial ?_ rfl
  simp only [Tryz.ntmps58, List.size_toArray, List.length_cons, List.length_nil, Nat.reduceAdd, Nat.reduceSub, Array.replicate_succ, Array.replicate_zero, List.push_toArray, List.append_toArray, List.nil_append, List.cons_append]
  gi_wp2_with (refine ⟨trivial, ?_⟩; gi_at_call 126; refine (hpi _).mono ?_; rintro e w' ⟨rfl, rfl⟩)
  obtain ⟨o0, ho0⟩ : ∃ o : Obj, o = .cells #[.bool false, .int .u8 p.kind, .string p.text, .int .i64 p.at_, .slice p.kao 0 p.kcap] 36 := ⟨_, rfl⟩
  rw [← ho0]
  obtain ⟨W0, hW0⟩ : ∃ W0, W0 = (((((w.alloc o0).alloc (.cells #[.string ⟨#[]⟩] 9)).alloc (.cells #[.int .i64 0] 42)).alloc (.cells #[.pointer none, .slice none 0 0] 240)).alloc (.cells #[.bool false] 4)).alloc o0 := ⟨_, rfl⟩
  have b1 : Boxed W0 (w.heap.size + 1) 9 (.string ⟨#[]⟩) := by
    have h := ((((Boxed.new (w.alloc o0) 9 (.string ⟨#[]⟩)).alloc (.cells #[.int .i64 0] 42)).alloc (.cells #[.pointer none, .slice none 0 0] 240)).alloc (.cells #[.bool false] 4)).alloc o0
    rw [World.size_alloc] at h; rw [hW0]; exact h
  have b2 : Boxed W0 (w.heap.size + 1 + 1) 42 (.int .i64 0) := by
    have h := (((Boxed.new ((w.alloc o0).alloc (.cells #[.string ⟨#[]⟩] 9)) 42 (.int .i64 0)).alloc (.cells #[.pointer none, .slice none 0 0] 240)).alloc (.cells #[.bool false] 4)).alloc o0
    simp only [World.size_alloc] at h; rw [hW0]; exact h
  have b4 : Boxed W0 (w.heap.size + 1 + 1 + 1 + 1) 4 (.bool false) := by
    have h := (Boxed.new ((((w.alloc o0).alloc (.cells #[.string ⟨#[]⟩] 9)).alloc (.cells #[.int .i64 0] 42)).alloc (.cells #[.pointer none, .slice none 0 0] 240)) 4 (.bool false)).alloc o0
    simp only [World.size_alloc] at h; rw [hW0]; exact h
  have b3 : Lib.IsBuilderF 240 5 w.heap.size (w.heap.size + 1 + 1 + 1) [] W0 := by
    have h : Lib.BuilderAtF 240 5 w.heap.size (w.heap.size + 1 + 1 + 1) (.pointer none) [] ((((w.alloc o0).alloc (.cells #[.string ⟨#[]⟩] 9)).alloc (.cells #[.int .i64 0] 42)).alloc (.cells #[.pointer none, .slice none 0 0] 240)) := by
      refine ⟨by omega, .slice none 0 0, ?_, World.ownsRowF_nil _ _ _ _, by simp [Value.ownBlock]⟩
      have := heap_alloc_new (((w.alloc o0).alloc (.cells #[.string ⟨#[]⟩] 9)).alloc (.cells #[.int .i64 0] 42)) (.cells #[.pointer none, .slice none 0 0] 240)
      simpa using this
    rw [hW0]
    exact .inl ((h.alloc _).alloc _)
  have b5 : W0.heap[w.heap.size + 1 + 1 + 1 + 1 + 1]? = some o0 := by
    have := heap_alloc_new (((((w.alloc o0).alloc (.cells #[.string ⟨#[]⟩] 9)).alloc (.cells #[.int .i64 0] 42)).alloc (.cells #[.pointer none, .slice none 0 0] 240)).alloc (.cells #[.bool false] 4)) o0
    rw [hW0]; simpa using this
  have hsz : W0.heap.size = w.heap.size + 6 := by rw [hW0]; simp
  have hB0 : Below w.heap.size w W0 := by
    rw [hW0]
    exact ((((((Below.refl _ w).alloc (Nat.le_refl _) _).alloc (by simp) _).alloc (by simp; omega) _).alloc (by simp; omega) _).alloc (by simp; omega) _).alloc (by simp; omega) _
  rw [← hW0]
  rw [ho0] at b5
  have hst := hst (fun k => k = w.heap.size + 1 ∨ k = w.heap.size + 1 + 1 ∨ k = w.heap.size + 1 + 1 + 1 ∨ k = w.heap.size + 1 + 1 + 1 + 1) _ W0 b5 (fun k hk => by omega)
  clear hW0 ho0 hpi
  refine wpIn_rangeFunc_ownH rfl (by omega) (gf := 188) (lb := #[.pointer (some ⟨w.heap.size + 1 + 1 + 1 + 1 + 1, 0, none⟩)]) rfl trivial (enters_of Tryz.func188 (by kernel_rfl) rfl)
    hst KpT.trans ?kb (Below.refl _ _) (fun _ => by rw [hpe]; rfl)
    (fun pre W => ((Boxed W (w.heap.size + 1) 9 (.string ⟨#[]⟩) ∧ Boxed W (w.heap.size + 1 + 1) 42 (.int .i64 0) ∧ Boxed W (w.heap.size + 1 + 1 + 1 + 1) 4 (.bool false)) ∧ (Lib.IsBuilderF 240 5 w.heap.size (w.heap.size + 1 + 1 + 1) (if pre = [] then [] else Lib.strCells str) W ∧ (pre ≠ [] → ok = true))) ∧ Below w.heap.size w W)
    (fun c _ W => ((c = .ret ∧ ok = false) ∧ Boxed W (w.heap.size + 1) 9 (.string ⟨#[]⟩) ∧ Boxed W (w.heap.size + 1 + 1) 42 (.int .i64 5)) ∧ Below w.heap.size w W)
    ?hI ?hIx ⟨⟨⟨b1, b2, b4⟩, b3, fun h => (h rfl).elim⟩, hB0⟩
    (fun _ a' W => ∃ Bx, w.heap.size + 5 ≤ Bx ∧ W.heap[Bx]? = some (.cells #[.bool false, .int .u8 p.kind, .string p.text, .int .i64 p.at_, .slice p.kao 0 p.kcap, .bool false, .bool true, .int .i64 0] 245 (0, 0)) ∧ a' = { tmps := #[.agg #[.bool false, .int .u8 p.kind, .string p.text, .int .i64 p.at_, .slice p.kao 0 p.kcap], .pointer (some ⟨w.heap.size, 0, none⟩), .pointer (some ⟨w.heap.size + 1, 0, none⟩), .pointer (some ⟨w.heap.size + 1 + 1, 0, none⟩), .pointer (some ⟨w.heap.size + 1 + 1 + 1, 0, none⟩), .pointer (some ⟨w.heap.size + 1 + 1 + 1 + 1, 0, none⟩), .pointer (some ⟨Bx, 0, none⟩), undef, undef, .agg #[.bool false, .int .u8 p.kind, .string p.text, .int .i64 p.at_, .slice p.kao 0 p.kcap], .func (.func 188) #[] #[.pointer (some ⟨w.heap.size + 1 + 1 + 1 + 1 + 1, 0, none⟩)], .agg #[.bool false, .int .u8 p.kind, .string p.text, .int .i64 p.at_, .slice p.kao 0 p.kcap, .bool false, .bool true, .int .i64 0], undef, undef, undef, undef, undef, undef, undef, undef, undef, undef, undef, undef, undef, undef, undef, undef, undef, undef, undef, undef, undef, undef, undef, undef, undef, undef, undef, undef, undef, undef, undef, undef, undef, undef, undef, undef, undef, undef, undef, undef, undef, undef, undef, undef, undef, undef, undef, undef, undef, undef, undef, undef, undef, undef, undef, undef, undef, undef], defers := [] })
    ?hAx ?assign ?body ?done ?stop
  case kb => exact fun W l o o' _ h hc _ => KpT.of_grownBy (grownBy_putObj' W l o') (fun r e => by cases e; exact .inr ⟨o, h, hc⟩)
  case hI =>
    rintro s W W' row ⟨⟨⟨h1, h2, h4⟩, h3, h5⟩, hB⟩ hg hr
    have hr2 := fun r e => (hr r e).2
    exact ⟨⟨⟨boxed_own h1 hg hr2, boxed_own h2 hg hr2, boxed_own h4 hg hr2⟩, isBuilderF_grown h3 hg hr2, h5⟩, hB.grown hg hB.size (fun k e => by have := (hr k e).1; omega)⟩
  case hIx =>
    rintro c s W W' row ⟨⟨h0, h1, h2⟩, hB⟩ hg hr
    have hr2 := fun r e => (hr r e).2
    exact ⟨⟨h0, boxed_own h1 hg hr2, boxed_own h2 hg hr2⟩, hB.grown hg hB.size (fun k e => by have := (hr k e).1; omega)⟩
  case hAx =>
    rintro x a' s W W' row ⟨Bx, h1, h2, h3⟩ hg hr
    refine ⟨Bx, h1, ?_, h3⟩
    rw [hg.block Bx (Array.getElem?_eq_some_iff.1 h2).1 (fun e => by obtain ⟨o, ho, hc⟩ := (hr Bx e.symm).2; rw [h2] at ho; cases ho; cases hc)]
    exact h2
  case assign =>
    rintro l pre x W K hi hK
    simp only [hpe]
    gi_wp2
    have hlt := hi.1.1.2.2.lt
    obtain ⟨⟨⟨h1, h2, h4⟩, h3, h5⟩, hB⟩ := hi
    exact hK _ _ ((KeepsOthers.alloc _ _).from _) (KpT.alloc _ _ _) ⟨⟨⟨h1.alloc _, h2.alloc _, h4.alloc _⟩, isBuilderF_grown h3 (World.grownBy_alloc W _ none) (fun r e => by cases e), h5⟩, hB.alloc hB.size _⟩ ⟨W.heap.size, by omega, heap_alloc_new W _, rfl⟩
  case body =>
    rintro l pre x a' W hl - ⟨⟨⟨h1, h2, h4⟩, h3, h5⟩, hB⟩ ⟨Bx, hBx, hx, rfl⟩ hpre
    have hp0 : pre = [] := by cases pre with
      | nil => rfl
      | cons => simp at hpre
    subst hp0
    have x0 : W.cell? ⟨Bx, 0, none⟩ = some (.bool false) := by rw [Lib.cell_of_heap hx]; rfl
    have x1 : W.cell? ⟨Bx, 1, none⟩ = some (.int .u8 p.kind) := by rw [Lib.cell_of_heap hx]; rfl
    have x2 : W.cell? ⟨Bx, 2, none⟩ = some (.string p.text) := by rw [Lib.cell_of_heap hx]; rfl
    have x3 : W.cell? ⟨Bx, 3, none⟩ = some (.int .i64 p.at_) := by rw [Lib.cell_of_heap hx]; rfl
    have x4 : W.cell? ⟨Bx, 4, none⟩ = some (.slice p.kao 0 p.kcap) := by rw [Lib.cell_of_heap hx]; rfl
    have x5 : W.cell? ⟨Bx, 5, none⟩ = some (.bool false) := by rw [Lib.cell_of_heap hx]; rfl
    have x6 : W.cell? ⟨Bx, 6, none⟩ = some (.bool true) := by rw [Lib.cell_of_heap hx]; rfl
    have x7 : W.cell? ⟨Bx, 7, none⟩ = some (.int .i64 0) := by rw [Lib.cell_of_heap hx]; rfl
    have y0 := h4.cell
    have y1 := h4.frozen
    have hne : Bx ≠ w.heap.size + 1 + 1 + 1 + 1 := by omega
    gi_wp2
    rw [setCell_id h4]
    refine ⟨trivial, ?_⟩
    refine (CallsIn.inRound l (callsIn_wide.2 (htok W))).mono ?_
    rintro e W2 ⟨rfl, hb2⟩
    have hg2 := grownBy_of_all hb2
    have hk2 : KeepsOthers W W2 := keepsOthers_of_grownBy hg2 (fun r e => by cases e)
    have hp2 := KpT.of_grownBy (S := fun k => k = w.heap.size + 1 ∨ k = w.heap.size + 1 + 1 ∨ k = w.heap.size + 1 + 1 + 1 ∨ k = w.heap.size + 1 + 1 + 1 + 1) hg2 (fun r e => by cases e)
    have h1 := boxed_own h1 hg2 (fun r e => by cases e)
    have h2 := boxed_own h2 hg2 (fun r e => by cases e)
    have h4 := boxed_own h4 hg2 (fun r e => by cases e)
    have h3 := isBuilderF_grown h3 hg2 (fun r e => by cases e)
    have x4 : W2.cell? ⟨Bx, 4, none⟩ = some (.slice p.kao 0 p.kcap) := by rw [hb2.cell (p := ⟨Bx, 4, none⟩) (Array.getElem?_eq_some_iff.1 hx).1]; exact x4
    have hB2 := hB.trans (hb2.mono hB.size)
    clear x0 x1 x2 x3 x5 x6 x7 y0 y1 hne hg2 hb2 hB
    cases ok with
    | false =>
      have y0 := h1.cell
      have y1 := h1.frozen
      have z0 := h2.cell
      have z1 := h2.frozen
      gi_wp2
      exact ⟨(hk2.trans ((KeepsOthers.setCell _ _ _).trans (KeepsOthers.setCell _ _ _))).from _, ⟨rfl, boxed_other (h1.set _) _ _ (by omega), (boxed_other h2 _ _ (by omega)).set _⟩, (hB2.setCell (p := ⟨w.heap.size + 1, 0, none⟩) (by simp) _).setCell (p := ⟨w.heap.size + 1 + 1, 0, none⟩) (by show _ ≤ w.heap.size + 1 + 1; omega) _⟩
    | true =>
      have h3' : Lib.IsBuilderF 240 5 w.heap.size (w.heap.size + 1 + 1 + 1) [] W2 := h3
      have hbc : ∃ cs t fr, W2.heap[w.heap.size + 1 + 1 + 1]? = some (.cells cs t fr) := by
        rcases h3' with ⟨_, v, hb, _⟩ | ⟨_, v, hb, _⟩ <;> exact ⟨_, _, _, hb⟩
      gi_wp2_with (refine ⟨trivial, ?_⟩; gi_at_call 129; refine (CallsIn.inRound l (callsIn_wide.2 (writeString_k w.heap.size (w.heap.size + 1 + 1 + 1) [] str W2 h3' (by simp; omega) hB2.size))).mono ?_; rintro e W3 ⟨rfl, hb3, hB3, hO3⟩)
      exact ⟨(hk2.trans (keepsOthers_of_othersKept hO3 hB3.size hbc)).from _, hp2.trans (kpT_of_othersKept hO3 hB3.size (.inr (.inr (.inl rfl)))), ⟨⟨boxed_okept h1 hO3 (by omega) (by decide), boxed_okept h2 hO3 (by omega) (by decide), boxed_okept h4 hO3 (by omega) (by decide)⟩, .inr (by simpa using hb3)⟩, hB2.trans hB3⟩
  case done =>
    rintro D ys W hD rfl ⟨⟨⟨h1, h2, h4⟩, h3, h5⟩, hB⟩ hK
    obtain rfl : ok = true := h5 (by simp)
    rw [if_neg (by simp)] at h3
    have y4 := h4.cell
    have y0 := h1.cell
    have y1 := h1.frozen
    have z0 := h2.cell
    have z1 := h2.frozen
    have hlen : (Lib.strCells str).length = str.size := Lib.strCells_length str
    gi_wp2_with (refine ⟨trivial, ?_⟩; gi_at_call 130; refine (callsIn_wide.2 (Tryz.Builder_Len_f w.heap.size (w.heap.size + 1 + 1 + 1) (Lib.strCells str) W h3)).mono ?_; rintro e w' ⟨rfl, rfl⟩; rw [hlen])
    · have hFK := ((KeepsOthers.setCell w' ⟨w.heap.size + 1, 0, none⟩ (.string ⟨#[]⟩)).trans (KeepsOthers.setCell _ ⟨w.heap.size + 1 + 1, 0, none⟩ (.int .i64 3))).same D _ hK rfl
      have hF3 := (boxed_own (boxed_other (h1.set (.string ⟨#[]⟩)) (b' := w.heap.size + 1 + 1) 0 (.int .i64 3) (by omega)) (grownBy_putObj' _ D (.deferred none)) (fun r e => by cases e; exact ⟨_, hFK, rfl⟩)).cell
      have hF4 := (boxed_own ((boxed_other h2 (b' := w.heap.size + 1) 0 (.string ⟨#[]⟩) (by omega)).set (.int .i64 3)) (grownBy_putObj' _ D (.deferred none)) (fun r e => by cases e; exact ⟨_, hFK, rfl⟩)).cell
      have hFB := (hB.setCell (p := ⟨w.heap.size + 1, 0, none⟩) (by simp) (.string ⟨#[]⟩)).setCell (p := ⟨w.heap.size + 1 + 1, 0, none⟩) (by show _ ≤ w.heap.size + 1 + 1; omega) (.int .i64 3)
      refine ⟨by simp, .inl ⟨_, _, rfl, run_takeDeferred hFK, ?_⟩⟩
      refine ⟨.tuple #[.string ⟨#[]⟩, .int .i64 3], ?_, rfl, hFB.trans (belowK_b (w := w) (Nat.le_refl _) _ D _ _ (by omega) hFK rfl rfl)⟩
      simp [results, Tryz.f58, go_sem, hF3, hF4]
    · refine ⟨trivial, ?_⟩
      refine (callsIn_wide.2 (Tryz.Builder_String_any_k w.heap.size (w.heap.size + 1 + 1 + 1) str.data.toList w' h3 hB.size)).mono ?_
      rintro e W3 ⟨rfl, _, hB3, hO3⟩
      have hK3 := hO3 D _ hK (fun e => by
        have hD3 := Option.some.inj e
        subst hD3
        rcases h3 with ⟨_, v, hb, _⟩ | ⟨_, v, hb, _⟩ <;> (rw [hb] at hK; cases hK)) (fun c fz e => by cases e)
      have h1 := boxed_okept h1 hO3 (by omega) (by decide)
      have h2 := boxed_okept h2 hO3 (by omega) (by decide)
      have hB := hB.trans hB3
      have y0 := h1.cell
      have y1 := h1.frozen
      have z0 := h2.cell
      have z1 := h2.frozen
      gi_wp2
      have hFK := ((KeepsOthers.setCell W3 ⟨w.heap.size + 1, 0, none⟩ (.string str)).trans (KeepsOthers.setCell _ ⟨w.heap.size + 1 + 1, 0, none⟩ (.int .i64 0))).same D _ hK3 rfl
      have hF3 := (boxed_own (boxed_other (h1.set (.string str)) (b' := w.heap.size + 1 + 1) 0 (.int .i64 0) (by omega)) (grownBy_putObj' _ D (.deferred none)) (fun r e => by cases e; exact ⟨_, hFK, rfl⟩)).cell
      have hF4 := (boxed_own ((boxed_other h2 (b' := w.heap.size + 1) 0 (.string str) (by omega)).set (.int .i64 0)) (grownBy_putObj' _ D (.deferred none)) (fun r e => by cases e; exact ⟨_, hFK, rfl⟩)).cell
      have hFB := (hB.setCell (p := ⟨w.heap.size + 1, 0, none⟩) (by simp) (.string str)).setCell (p := ⟨w.heap.size + 1 + 1, 0, none⟩) (by show _ ≤ w.heap.size + 1 + 1; omega) (.int .i64 0)
      refine ⟨by simp, .inl ⟨_, _, rfl, run_takeDeferred hFK, ?_⟩⟩
      refine ⟨.tuple #[.string str, .int .i64 0], ?_, rfl, hFB.trans (belowK_b (w := w) (Nat.le_refl _) _ D _ _ (by omega) hFK rfl rfl)⟩
      simp [results, Tryz.f58, go_sem, hF3, hF4]
  case stop =>
    rintro D c pre W hD hpre ⟨⟨⟨rfl, rfl⟩, h1, h2⟩, hB⟩ hK
    gi_wp2
    have hF3 := (boxed_own h1 (grownBy_putObj' _ D (.deferred none)) (fun r e => by cases e; exact ⟨_, hK, rfl⟩)).cell
    have hF4 := (boxed_own h2 (grownBy_putObj' _ D (.deferred none)) (fun r e => by cases e; exact ⟨_, hK, rfl⟩)).cell
    refine ⟨by simp, .inl ⟨_, _, rfl, run_takeDeferred hK, ?_⟩⟩
    refine ⟨.tuple #[.string ⟨#[]⟩, .int .i64 5], ?_, rfl, hB.trans (belowK_b (w := w) (Nat.le_refl _) _ D _ _ (by omega) hK rfl rfl)⟩
    simp [results, Tryz.f58, go_sem, hF3, hF4]
end Go.Proofs.YtjdgfdpbiidldaaGreatDoor

namespace Go.Proofs.YtjdgfdpbiidldaaGreatDoor
open Go.RowKit

set_option maxHeartbeats 1000000 in
set_option maxRecDepth 100000 in
theorem name_plain (s : ByteArray) (w : World) (hl : s.size ≤ 1048576) (hp : plainB s.toList = true) :
    Calls Tryz.prog 63 #[.string s] w fun e w' => e = .returned (.string s) ∧ Below w.heap.size w w' := by
  have ht := fun w => text_leaf ⟨false, 3, s, 0, none, 0, 0, false, true, 0⟩ s true w rfl rfl rfl rfl rfl (by omega) (fun W => token_plain s 0 W hl hp)
  have hn : ¬ 1048576 < s.size := by omega
  simp only [PartD.tree, if_true, hn, if_false] at ht
  have Ht := Lib.hid ht
  clear ht hl hp hn
  go_enter Tryz.func63, Tryz.ntmps63
  go_wp2_with (go_at_call 58; refine (Ht.out _).mono ?_; rintro e w1 ⟨rfl, hb1⟩)
  go_ret
  exact ⟨rfl, hb1⟩

set_option maxHeartbeats 1000000 in
set_option maxRecDepth 100000 in
/-- no table: no text -/
theorem value_nil (i : Int) (rest : List Value) (w : World) (v : Array Value) (hv : v = (Value.int .i64 i :: rest).toArray) (h5 : rest.length = 4) :
    Calls Tryz.prog 18 #[.pointer none, .agg v] w fun e w' => e = .returned (.tuple #[.string ⟨#[]⟩, .int .i64 1]) ∧ Below w.heap.size w w' := by
  match rest, h5 with
  | [a, b, c, d], _ =>
    subst hv
    go_enter Tryz.func18, Tryz.ntmps18
    go_wp2_with (go_at_call 60; refine (sortName_nil i _).mono ?_; rintro e w' ⟨rfl, rfl⟩)
    go_ret2
    exact ⟨rfl, (Below.refl _ w).alloc (Nat.le_refl _) _⟩

theorem decD_small : ∀ E, E < 100 → (⟨(Lib.decDigits E).toArray⟩ : ByteArray).size ≤ 100 := by decide +kernel

set_option maxHeartbeats 1000000 in
set_option maxRecDepth 100000 in
/-- an element's text, at a small number and a plain name -/
theorem value_elem (B b : Nat) (T : TabD) (s : Int) (nm : ByteArray) (bo : Bool) (hi lo : Int) (E : Nat) (w : World) (h : IsTab w B b T) (hs1 : s ≤ 9223372036854775807) (hs0 : (s == 0) = false) (hs2 : (s == 1) = false) (hnm : T.sortName s = (nm, 0)) (hl : nm.size ≤ 1048576) (hp : plainB nm.toList = true) (hE : E < 100) :
    Calls Tryz.prog 18 #[.pointer (some ⟨b, 0, none⟩), .agg #[.int .i64 s, .bool bo, .int .i64 hi, .int .i64 lo, .int .i64 E]] w fun e w' => e = .returned (.tuple #[.string (⟨#[40, 97, 115, 32, 64]⟩ ++ ⟨(Lib.decDigits E).toArray⟩ ++ ⟨#[32]⟩ ++ nm ++ ⟨#[41]⟩), .int .i64 0]) ∧ Below w.heap.size w w' := by
  have hsn := sortName_any B b T s
  rw [hnm] at hsn
  have hnp := fun w => name_plain nm w hl hp
  obtain ⟨D, hD⟩ : ∃ D : ByteArray, D = ⟨(Lib.decDigits E).toArray⟩ := ⟨_, rfl⟩
  have hDs : D.size ≤ 100 := by rw [hD]; exact decD_small E hE
  have hfi : ∀ w, Calls Tryz.prog 62 #[.int .i64 E, .int .i64 10] w fun e w' => e = .returned (.string D) ∧ w' = w := by rw [hD]; exact Tryz.strconv_FormatInt_10_small E hE
  rw [← hD]
  clear hD
  have htb : ∀ o, IsTab (w.alloc o) B b T := fun o => h.keeps (ts := []) (Below.keeps_all ((Below.refl _ w).alloc (Nat.le_refl _) o) [] false) (by simp) (by simp) (by simp) (by simp)
  have hs1b : (s != 1) = true := by simp [bne, hs2]
  have Hsn := Lib.hid hsn
  have Hnp := Lib.hid hnp
  have Hfi := Lib.hid hfi
  have Htb := Lib.hid htb
  have Hs1 := Lib.hid hs1
  clear hsn hnp hfi htb h hs1 hnm hp
  go_enter Tryz.func18, Tryz.ntmps18
  go_wp2_with (first | (go_at_call 60; refine (Hsn.out _ (Htb.out _) Hs1.out).mono ?_; rintro e w1 ⟨rfl, rfl⟩) | (go_at_call 62; refine (Hfi.out _).mono ?_; rintro e w2 ⟨rfl, rfl⟩) | (go_at_call 63; refine (Hnp.out _).mono ?_; rintro e w3 ⟨rfl, hb3⟩))
  go_ret2
  exact ⟨rfl, ((Below.refl _ w).alloc (Nat.le_refl _) _).trans (hb3.mono (by simp))⟩
end Go.Proofs.YtjdgfdpbiidldaaGreatDoor

namespace Go.Proofs.YtjdgfdpbiidldaaGreatDoor
open Go.RowKit
namespace JM
section
variable {K : Type} [DecidableEq K] {P : Program} {kt et t : TypeId} {kv : K → Value} {w : World} {b r : Nat} {l : List (K × Value)}

/-- a walk over block b's map: V says which entries have come -/
def Rng (kv : K → Value) (w : World) (b r : Nat) (l : List (K × Value)) (V : Nat → Bool) (cnt : Nat) : Prop :=
  ∃ es clock since seen c0, w.heap[b]? = some (.map es clock) ∧ es.toList.map (fun e => (e.key, e.val)) = l.map (fun p => (kv p.1, p.2)) ∧
    (es.toList.map (·.born)).Pairwise (· < ·) ∧ w.heap[r]? = some (.mapIter (some b) since seen c0) ∧ (∀ x ∈ es.toList, x.born < since) ∧ since ≤ c0 ∧ since ≤ clock ∧
    (leftOf es seen).size = cnt ∧ (∀ i (h : i < es.size), seen.contains es[i].born = V i)

/-- how many are still to come -/
def left (w : World) (b r : Nat) : Nat :=
  match w.heap[b]?, w.heap[r]? with
  | some (.map es _), some (.mapIter _ _ seen _) => (leftOf es seen).size
  | _, _ => 0
omit [DecidableEq K] in
theorem Rng.left_eq {V : Nat → Bool} {cnt : Nat} (h : Rng kv w b r l V cnt) : left w b r = cnt := by
  obtain ⟨es, clock, since, seen, c0, hb, _, _, hr, _, _, _, hc, _⟩ := h
  simp [left, hb, hr, hc]
omit [DecidableEq K] in
theorem Rng.same {w' : World} {V : Nat → Bool} {cnt : Nat} (h : Rng kv w b r l V cnt) (h1 : w'.heap[b]? = w.heap[b]?) (h2 : w'.heap[r]? = w.heap[r]?) : Rng kv w' b r l V cnt := by
  obtain ⟨es, clock, since, seen, c0, hb, a1, a2, hr, rest⟩ := h
  exact ⟨es, clock, since, seen, c0, h1.trans hb, a1, a2, h2.trans hr, rest⟩

omit [DecidableEq K] in
theorem run_rng (ht : P.underlying t = some (.map kt et)) (h : IsM kv w b l) :
    ∃ w', (Instr.range t (.map (some b))).run P w = .ok (.pointer (some ⟨w.heap.size, 0, none⟩)) w' ∧ Rng kv w' b w.heap.size l (fun _ => false) l.length ∧ w.grownBy w' none ∧ w'.heap.size = w.heap.size + 1 := by
  have hlt := h.lt
  obtain ⟨es, clock, hb, hes, hbn, hl, hnd⟩ := h
  have hlen : es.size = l.length := by have := congrArg List.length hes; simpa using this
  refine ⟨_, run_range_map w t kt et b es clock ht hb, ⟨es, clock, clock, #[], clock, ((MapKept.heap_alloc w _).2 b hlt).trans hb, hes, hbn, (MapKept.heap_alloc w _).1, hl, Nat.le_refl _, Nat.le_refl _, ?_, ?_⟩, World.grownBy_alloc w _ none, by simp⟩
  · have e : leftOf es #[] = es := by unfold leftOf; exact Array.filter_eq_self.2 (by simp)
    rw [e, hlen]
  · intro i hi; simp

omit [DecidableEq K] in
theorem run_step {V : Nat → Bool} {cnt : Nat} (h : Rng kv w b r l V cnt) (ty : TypeId) :
    (cnt = 0 ∧ (∀ i, i < l.length → V i = true) ∧ (Instr.next (.pointer (some ⟨r, 0, none⟩)) false ty).run P w = .ok (.tuple #[.bool false]) w) ∨
    ∃ i k v w' cnt', l[i]? = some (k, v) ∧ V i = false ∧ (Instr.next (.pointer (some ⟨r, 0, none⟩)) false ty).run P w = .ok (.tuple #[.bool true, kv k, v]) w' ∧
      Rng kv w' b r l (fun j => V j || j == i) cnt' ∧ cnt' < cnt ∧ w.grownBy w' (some r) ∧ w'.heap.size = w.heap.size ∧ (Instr.entry (.pointer (some ⟨r, 0, none⟩))).run P w' = .ok (.tuple #[kv k, v]) w' := by
  obtain ⟨es, clock, since, seen, c0, hb, hes, hbn, hr, hold, hsc, hsk, rfl, hV⟩ := h
  have hlen : es.size = l.length := by have := congrArg List.length hes; simpa using this
  have hne : b ≠ r := by rintro rfl; rw [hb] at hr; cases hr
  rcases run_next_at (P := P) w ty r b since c0 seen es clock hr hb hold hsc with ⟨h0, hrun⟩ | ⟨e, he, w1, hal, hrun⟩
  · refine .inl ⟨h0, fun i hi => ?_, hrun⟩
    rw [← hV i (by omega)]
    exact all_seen es seen h0 es[i] (by simp)
  · obtain ⟨hem, hes2⟩ := mem_left he
    obtain ⟨i, hi, hie⟩ := List.mem_iff_getElem.1 hem
    have hi2 : i < es.size := by simpa using hi
    have hie2 : es[i] = e := by simpa using hie
    have hl1 : (es.toList.map (fun e => (e.key, e.val)))[i]? = (l.map (fun p => (kv p.1, p.2)))[i]? := by rw [hes]
    have hil : i < l.length := by omega
    simp only [List.getElem?_map] at hl1
    rw [List.getElem?_eq_getElem hi, List.getElem?_eq_getElem hil] at hl1
    simp [hie2] at hl1
    obtain ⟨hk1, hv1⟩ := hl1
    have hr1 : w1.heap[r]? = some (.mapIter (some b) since seen c0) := by rcases hal with rfl | rfl <;> exact hr
    have hb1 : w1.heap[b]? = some (.map es clock) := by rcases hal with rfl | rfl <;> exact hb
    have hset := MapKept.heap_set (o' := .mapIter (some b) since (seen.push e.born) clock) hr1
    have hb' : (ChangeMaps.setBlock w1 r (.mapIter (some b) since (seen.push e.born) clock)).heap[b]? = some (.map es clock) := (hset.2 b hne).trans hb1
    have hnd : (es.toList.map (·.born)).Nodup := hbn.imp (fun h => Nat.ne_of_lt h)
    refine .inr ⟨i, l[i].1, l[i].2, _, _, List.getElem?_eq_getElem hil, ?_, ?_, ⟨es, clock, since, seen.push e.born, clock, hb', hes, hbn, hset.1, hold, hsk, hsk, rfl, ?_⟩, left_shrinks es seen e he, ?_, ?_, ?_⟩
    · rw [← hV i hi2, hie2]; exact hes2
    · rw [← hk1, ← hv1]; exact hrun
    · intro j hj
      rw [contains_push, hV j hj]
      congr 1
      rw [Bool.eq_iff_iff]
      simp only [beq_iff_eq]
      constructor
      · intro e2
        have := (List.getElem_inj (i := j) (j := i) (h₀ := by simpa using hj) (h₁ := by simpa using hi2) hnd).1 (by simp [e2, hie2])
        exact this
      · rintro rfl; rw [hie2]
    · rcases hal with rfl | rfl <;> exact ⟨rfl, rfl, rfl, by simp [ChangeMaps.setBlock], fun i _ hi => hset.2 i (fun e1 => hi (by rw [e1]))⟩
    · rcases hal with rfl | rfl <;> simp [ChangeMaps.setBlock]
    · rw [← hk1, ← hv1]
      exact run_entry_at _ r b since seen es clock e hset.1 hb' hem hnd
end

section
variable {K : Type} [DecidableEq K] {P : Program} {kt et t : TypeId} {kv : K → Value} {b r : Nat} {l : List (K × Value)}
variable (w : World) {ops : Array Oper} {rest : List Oper} {o : Oper} {a : Act} {Q : Exit → Act → World → Prop}

omit [DecidableEq K] in
theorem wpList_range_j (hg : o.guard = none) (m : Operand) (hop : o.op = Op.range t m) (ht : P.underlying t = some (.map kt et)) (hm : a.eval m = .map (some b)) (hown : IsM kv w b l)
    (hK : ∀ w', Rng kv w' b w.heap.size l (fun _ => false) l.length → w.grownBy w' none → w'.heap.size = w.heap.size + 1 → wpList P ops Q rest (a.put o.dst (.pointer (some ⟨w.heap.size, 0, none⟩))) w') :
    wpList P ops Q (o :: rest) a w := by
  refine wpList_plain hg fun K' hK' => ?_
  obtain ⟨w', hrun, r1, r2, r3⟩ := run_rng (P := P) ht hown
  unfold Oper.wp
  simp [execOp, hop, hm, hrun, Result.andThen]
  exact hK' _ _ (hK w' r1 r2 r3)

omit [DecidableEq K] in
theorem wpList_next_j (hg : o.guard = none) (it : Operand) (hop : o.op = Op.next it false) {V : Nat → Bool} {cnt : Nat} (hit : a.eval it = .pointer (some ⟨r, 0, none⟩)) (h : Rng kv w b r l V cnt)
    (hDone : (∀ i, i < l.length → V i = true) → wpList P ops Q rest (a.put o.dst (.tuple #[.bool false])) w)
    (hMore : ∀ i k v w' cnt', l[i]? = some (k, v) → V i = false → Rng kv w' b r l (fun j => V j || j == i) cnt' → cnt' < cnt → w.grownBy w' (some r) → w'.heap.size = w.heap.size →
      (Instr.entry (.pointer (some ⟨r, 0, none⟩))).run P w' = .ok (.tuple #[kv k, v]) w' → wpList P ops Q rest (a.put o.dst (.tuple #[.bool true, kv k, v])) w') :
    wpList P ops Q (o :: rest) a w := by
  refine wpList_plain hg fun K' hK' => ?_
  unfold Oper.wp
  rcases run_step (P := P) h o.type with ⟨_, hall, hrun⟩ | ⟨i, k, v, w', cnt', h1, h2, hrun, h3, h4, h5, h6, h7⟩
  · simp [execOp, hop, hit, hrun, Result.andThen]
    exact hK' _ _ (hDone hall)
  · simp [execOp, hop, hit, hrun, Result.andThen]
    exact hK' _ _ (hMore i k v w' cnt' h1 h2 h3 h4 h5 h6 h7)
end
end JM
end Go.Proofs.YtjdgfdpbiidldaaGreatDoor

namespace Go.Proofs.YtjdgfdpbiidldaaGreatDoor
open Go.RowKit

def ints (xs : List Int) : Array Value := (xs.map (Value.int .i64)).toArray

/-- a map from words to rows of errors lies at b -/
def Wds (w : World) (B b : Nat) (spec : List (ByteArray × List Int)) : Prop :=
  ∃ l : List (ByteArray × Value), JM.IsM Value.string w b l ∧ l.length = spec.length ∧ B ≤ b ∧
    ∀ (i : Nat) (p : ByteArray × Value) (q : ByteArray × List Int), l[i]? = some p → spec[i]? = some q → p.1 = q.1 ∧ ∃ g, p.2 = .slice (some ⟨g, 0, none⟩) q.2.length q.2.length ∧ w.heap[g]? = some (.cells (ints q.2) 42 (0, 0))

theorem findAt_new {key : ByteArray} : ∀ {l : List (ByteArray × Value)} {i : Nat}, key ∉ l.map (·.1) → JM.findAt key l i = none
  | [], _, _ => rfl
  | p :: l, i, h => by
    simp only [List.map_cons, List.mem_cons, not_or] at h
    unfold JM.findAt
    rw [if_neg h.1]
    exact findAt_new h.2

theorem Wds.add {w : World} {B b : Nat} {spec : List (ByteArray × List Int)} (h : Wds w B b spec) (key : ByteArray) (xs : List Int) (hnew : key ∉ spec.map (·.1)) :
    ∃ w', (Instr.mapUpdate 233 (.map (some b)) (.string key) (.slice (some ⟨w.heap.size, 0, none⟩) xs.length xs.length)).run Tryz.prog (w.alloc (.cells (ints xs) 42)) = .ok () w' ∧ Wds w' B b (spec ++ [(key, xs)]) ∧ (w.alloc (.cells (ints xs) 42)).grownBy w' (some b) := by
  obtain ⟨l, hM, hlen, hB, hall⟩ := h
  have hM2 : JM.IsM Value.string (w.alloc (.cells (ints xs) 42)) b l := hM.same (Lib.alloc_old w _ b hM.lt)
  obtain ⟨w', hrun, hM3, hg⟩ := JM.run_update (P := Tryz.prog) (JM.string_kind Tryz.underlying9) Tryz.underlying233 hM2 key (.slice (some ⟨w.heap.size, 0, none⟩) xs.length xs.length)
  have hkl : key ∉ l.map (·.1) := by
    intro hmem
    obtain ⟨p, hp, hpk⟩ := List.mem_map.1 hmem
    obtain ⟨i, hi⟩ := List.mem_iff_getElem?.1 hp
    have hil := (List.getElem?_eq_some_iff.1 hi).1
    obtain ⟨q, hq⟩ : ∃ q, spec[i]? = some q := ⟨_, List.getElem?_eq_getElem (by omega)⟩
    have := (hall i p q hi hq).1
    exact hnew (List.mem_map.2 ⟨q, List.mem_of_getElem? hq, by rw [← this, hpk]⟩)
  have hput : JM.put l key (.slice (some ⟨w.heap.size, 0, none⟩) xs.length xs.length) = l ++ [(key, .slice (some ⟨w.heap.size, 0, none⟩) xs.length xs.length)] := by
    unfold JM.put
    rw [findAt_new hkl]
  rw [hput] at hM3
  have hbk : ∀ (g : Nat) (cs : Array Value), (w.alloc (.cells (ints xs) 42)).heap[g]? = some (Obj.cells cs 42 (0, 0)) → w'.heap[g]? = some (Obj.cells cs 42 (0, 0)) := by
    intro g cs hh
    rw [hg.block g (Array.getElem?_eq_some_iff.1 hh).1 (fun e => ?_)]
    · exact hh
    · cases e
      obtain ⟨es, clock, hq, _⟩ := hM2
      rw [hq] at hh; cases hh
  refine ⟨w', hrun, ⟨_, hM3, by simp [hlen], hB, ?_⟩, hg⟩
  intro i p q hp hq
  by_cases hi : i < l.length
  · rw [List.getElem?_append_left hi] at hp
    rw [List.getElem?_append_left (by omega)] at hq
    obtain ⟨h1, g, h2, h3⟩ := hall i p q hp hq
    exact ⟨h1, g, h2, hbk g _ ((Lib.alloc_old w _ g (Array.getElem?_eq_some_iff.1 h3).1).trans h3)⟩
  · have hi2 := (List.getElem?_eq_some_iff.1 hp).1
    simp at hi2
    have : i = l.length := by omega
    subst this
    rw [List.getElem?_append_right (Nat.le_refl _)] at hp
    rw [List.getElem?_append_right (by omega)] at hq
    simp [hlen] at hp hq
    subst hp hq
    exact ⟨rfl, w.heap.size, rfl, hbk _ _ (heap_alloc_new w _)⟩

theorem wpList_word {B b : Nat} {spec : List (ByteArray × List Int)} {w : World} {ops : Array Oper} {rest : List Oper} {o : Oper} {a : Act} {Q : Exit → Act → World → Prop} (hg : o.guard = none) (m k x : Operand) (ho : o.op = .insert 233 m k x) (hW : Wds w B b spec) (key : ByteArray) (xs : List Int)
    (hm : a.eval m = .map (some b)) (hk : a.eval k = .string key) (G : Nat) (hG : w.heap.size = G) (hx : a.eval x = .slice (some ⟨G, 0, none⟩) xs.length xs.length) (hnew : key ∉ spec.map (·.1))
    (hK : ∀ w', Wds w' B b (spec ++ [(key, xs)]) → (w.alloc (.cells (ints xs) 42)).grownBy w' (some b) → wpList Tryz.prog ops Q rest (a.put o.dst undef) w') : wpList Tryz.prog ops Q (o :: rest) a (w.alloc (.cells (ints xs) 42)) := by
  subst hG
  refine wpList_plain hg fun K' hK' => ?_
  obtain ⟨w', hrun, h1, h2⟩ := hW.add key xs hnew
  unfold Oper.wp
  simp [execOp, ho, hm, hk, hx, hrun, Result.andThen]
  exact hK' _ _ (hK w' h1 h2)
end Go.Proofs.YtjdgfdpbiidldaaGreatDoor

namespace Go.Proofs.YtjdgfdpbiidldaaGreatDoor
open Go.RowKit

/-- the words for errors, in the order of the text -/
def errWords : List (ByteArray × List Int) := [(⟨#[119, 114, 111, 110, 103, 32, 102, 111, 114, 109]⟩, [2, 5, 70, 3, 40]), (⟨#[119, 114, 111, 110, 103, 32, 98, 121, 116, 101, 115]⟩, [4, 30, 31, 41]), (⟨#[97, 32, 110, 117, 109, 98, 101, 114, 32, 105, 115, 32, 116, 111, 111, 32, 103, 114, 101, 97, 116]⟩, [6]), (⟨#[97, 32, 110, 97, 109, 101, 32, 116, 104, 97, 116, 32, 100, 111, 101, 115, 32, 110, 111, 116, 32, 115, 116, 97, 110, 100]⟩, [7]), (⟨#[97, 32, 110, 97, 109, 101, 32, 116, 104, 97, 116, 32, 115, 116, 97, 110, 100, 115, 32, 97, 108, 114, 101, 97, 100, 121]⟩, [8]), (⟨#[97, 32, 110, 97, 109, 101, 32, 116, 104, 97, 116, 32, 109, 97, 121, 32, 110, 111, 116, 32, 98, 101]⟩, [50]), (⟨#[110, 111, 32, 114, 111, 111, 109]⟩, [9]), (⟨#[110, 111, 32, 115, 117, 99, 104, 32, 115, 99, 111, 112, 101]⟩, [51]), (⟨#[119, 114, 111, 110, 103, 32, 115, 111, 114, 116]⟩, [60]), (⟨#[110, 111, 116, 32, 111, 102, 32, 100, 105, 102, 102, 101, 114, 101, 110, 99, 101, 32, 108, 111, 103, 105, 99]⟩, [71]), (⟨#[110, 111, 116, 32, 97, 116, 32, 116, 104, 105, 115, 32, 112, 108, 97, 99, 101]⟩, [260])]

theorem wds_nil (w : World) : Wds (w.alloc (.map #[] 0)) w.heap.size w.heap.size [] :=
  ⟨[], JM.isM_new w, rfl, Nat.le_refl _, fun i p q h => by simp at h⟩

set_option maxHeartbeats 4000000 in
set_option maxRecDepth 100000 in
theorem words_any (w : World) : Calls Tryz.prog 123 #[] w fun e w' => e = .returned (.map (some w.heap.size)) ∧ Wds w' w.heap.size w.heap.size errWords ∧ Below w.heap.size w w' := by
  have hmm := @run_makeMap Tryz.prog
  have hw0 := wds_nil w
  have hb0 : Below w.heap.size w (w.alloc (.map #[] 0)) := (Below.refl _ w).alloc (Nat.le_refl _) _
  go_enter Tryz.func123, Tryz.ntmps123
  go_wp2_with (first
    | (refine wpList_word (w := w.alloc (.map #[] 0)) rfl (.tmp 1) (.const (.string ⟨#[119, 114, 111, 110, 103, 32, 102, 111, 114, 109]⟩)) (.tmp 2) rfl hw0 ⟨#[119, 114, 111, 110, 103, 32, 102, 111, 114, 109]⟩ [2, 5, 70, 3, 40] rfl rfl (w.heap.size + 1) (by simp) rfl (by simp) ?_; intro w1 hw1 hg1; have hb1 : Below w.heap.size w w1 := (hb0.alloc hb0.size _).grown hg1 (hb0.alloc hb0.size _).size (fun k e => by cases e; exact Nat.le_refl _); clear hw0 hg1 hb0)
    | (refine wpList_word (w := w1) rfl (.tmp 1) (.const (.string ⟨#[119, 114, 111, 110, 103, 32, 98, 121, 116, 101, 115]⟩)) (.tmp 3) rfl hw1 ⟨#[119, 114, 111, 110, 103, 32, 98, 121, 116, 101, 115]⟩ [4, 30, 31, 41] rfl rfl w1.heap.size rfl rfl (by simp) ?_; intro w2 hw2 hg2; have hb2 : Below w.heap.size w w2 := (hb1.alloc hb1.size _).grown hg2 (hb1.alloc hb1.size _).size (fun k e => by cases e; exact Nat.le_refl _); clear hw1 hg2 hb1)
    | (refine wpList_word (w := w2) rfl (.tmp 1) (.const (.string ⟨#[97, 32, 110, 117, 109, 98, 101, 114, 32, 105, 115, 32, 116, 111, 111, 32, 103, 114, 101, 97, 116]⟩)) (.tmp 4) rfl hw2 ⟨#[97, 32, 110, 117, 109, 98, 101, 114, 32, 105, 115, 32, 116, 111, 111, 32, 103, 114, 101, 97, 116]⟩ [6] rfl rfl w2.heap.size rfl rfl (by simp) ?_; intro w3 hw3 hg3; have hb3 : Below w.heap.size w w3 := (hb2.alloc hb2.size _).grown hg3 (hb2.alloc hb2.size _).size (fun k e => by cases e; exact Nat.le_refl _); clear hw2 hg3 hb2)
    | (refine wpList_word (w := w3) rfl (.tmp 1) (.const (.string ⟨#[97, 32, 110, 97, 109, 101, 32, 116, 104, 97, 116, 32, 100, 111, 101, 115, 32, 110, 111, 116, 32, 115, 116, 97, 110, 100]⟩)) (.tmp 5) rfl hw3 ⟨#[97, 32, 110, 97, 109, 101, 32, 116, 104, 97, 116, 32, 100, 111, 101, 115, 32, 110, 111, 116, 32, 115, 116, 97, 110, 100]⟩ [7] rfl rfl w3.heap.size rfl rfl (by simp) ?_; intro w4 hw4 hg4; have hb4 : Below w.heap.size w w4 := (hb3.alloc hb3.size _).grown hg4 (hb3.alloc hb3.size _).size (fun k e => by cases e; exact Nat.le_refl _); clear hw3 hg4 hb3)
    | (refine wpList_word (w := w4) rfl (.tmp 1) (.const (.string ⟨#[97, 32, 110, 97, 109, 101, 32, 116, 104, 97, 116, 32, 115, 116, 97, 110, 100, 115, 32, 97, 108, 114, 101, 97, 100, 121]⟩)) (.tmp 6) rfl hw4 ⟨#[97, 32, 110, 97, 109, 101, 32, 116, 104, 97, 116, 32, 115, 116, 97, 110, 100, 115, 32, 97, 108, 114, 101, 97, 100, 121]⟩ [8] rfl rfl w4.heap.size rfl rfl (by simp) ?_; intro w5 hw5 hg5; have hb5 : Below w.heap.size w w5 := (hb4.alloc hb4.size _).grown hg5 (hb4.alloc hb4.size _).size (fun k e => by cases e; exact Nat.le_refl _); clear hw4 hg5 hb4)
    | (refine wpList_word (w := w5) rfl (.tmp 1) (.const (.string ⟨#[97, 32, 110, 97, 109, 101, 32, 116, 104, 97, 116, 32, 109, 97, 121, 32, 110, 111, 116, 32, 98, 101]⟩)) (.tmp 7) rfl hw5 ⟨#[97, 32, 110, 97, 109, 101, 32, 116, 104, 97, 116, 32, 109, 97, 121, 32, 110, 111, 116, 32, 98, 101]⟩ [50] rfl rfl w5.heap.size rfl rfl (by simp) ?_; intro w6 hw6 hg6; have hb6 : Below w.heap.size w w6 := (hb5.alloc hb5.size _).grown hg6 (hb5.alloc hb5.size _).size (fun k e => by cases e; exact Nat.le_refl _); clear hw5 hg6 hb5)
    | (refine wpList_word (w := w6) rfl (.tmp 1) (.const (.string ⟨#[110, 111, 32, 114, 111, 111, 109]⟩)) (.tmp 8) rfl hw6 ⟨#[110, 111, 32, 114, 111, 111, 109]⟩ [9] rfl rfl w6.heap.size rfl rfl (by simp) ?_; intro w7 hw7 hg7; have hb7 : Below w.heap.size w w7 := (hb6.alloc hb6.size _).grown hg7 (hb6.alloc hb6.size _).size (fun k e => by cases e; exact Nat.le_refl _); clear hw6 hg7 hb6)
    | (refine wpList_word (w := w7) rfl (.tmp 1) (.const (.string ⟨#[110, 111, 32, 115, 117, 99, 104, 32, 115, 99, 111, 112, 101]⟩)) (.tmp 9) rfl hw7 ⟨#[110, 111, 32, 115, 117, 99, 104, 32, 115, 99, 111, 112, 101]⟩ [51] rfl rfl w7.heap.size rfl rfl (by simp) ?_; intro w8 hw8 hg8; have hb8 : Below w.heap.size w w8 := (hb7.alloc hb7.size _).grown hg8 (hb7.alloc hb7.size _).size (fun k e => by cases e; exact Nat.le_refl _); clear hw7 hg8 hb7)
    | (refine wpList_word (w := w8) rfl (.tmp 1) (.const (.string ⟨#[119, 114, 111, 110, 103, 32, 115, 111, 114, 116]⟩)) (.tmp 10) rfl hw8 ⟨#[119, 114, 111, 110, 103, 32, 115, 111, 114, 116]⟩ [60] rfl rfl w8.heap.size rfl rfl (by simp) ?_; intro w9 hw9 hg9; have hb9 : Below w.heap.size w w9 := (hb8.alloc hb8.size _).grown hg9 (hb8.alloc hb8.size _).size (fun k e => by cases e; exact Nat.le_refl _); clear hw8 hg9 hb8)
    | (refine wpList_word (w := w9) rfl (.tmp 1) (.const (.string ⟨#[110, 111, 116, 32, 111, 102, 32, 100, 105, 102, 102, 101, 114, 101, 110, 99, 101, 32, 108, 111, 103, 105, 99]⟩)) (.tmp 11) rfl hw9 ⟨#[110, 111, 116, 32, 111, 102, 32, 100, 105, 102, 102, 101, 114, 101, 110, 99, 101, 32, 108, 111, 103, 105, 99]⟩ [71] rfl rfl w9.heap.size rfl rfl (by simp) ?_; intro w10 hw10 hg10; have hb10 : Below w.heap.size w w10 := (hb9.alloc hb9.size _).grown hg10 (hb9.alloc hb9.size _).size (fun k e => by cases e; exact Nat.le_refl _); clear hw9 hg10 hb9)
    | (refine wpList_word (w := w10) rfl (.tmp 1) (.const (.string ⟨#[110, 111, 116, 32, 97, 116, 32, 116, 104, 105, 115, 32, 112, 108, 97, 99, 101]⟩)) (.tmp 12) rfl hw10 ⟨#[110, 111, 116, 32, 97, 116, 32, 116, 104, 105, 115, 32, 112, 108, 97, 99, 101]⟩ [260] rfl rfl w10.heap.size rfl rfl (by simp) ?_; intro w11 hw11 hg11; have hb11 : Below w.heap.size w w11 := (hb10.alloc hb10.size _).grown hg11 (hb10.alloc hb10.size _).size (fun k e => by cases e; exact Nat.le_refl _); clear hw10 hg11 hb10))
  go_ret
  exact ⟨rfl, hw11, hb11⟩
end Go.Proofs.YtjdgfdpbiidldaaGreatDoor
