/-
  Layer 4 (tree): what a tree's text is made of: the iterator, at a tree that is no list. No condition.
-/
import Derived.RangeFuncNested
import Derived.RangeFuncBound
import Derived.RangeFuncCalls
import Derived.RangeFuncLeaves
import Derived.OwnWalkIn
import Derived.TacticsInMore
import Derived.LoopNIn
import Derived.LoopIn
import Derived.Laws.EntriesVeiled
import Derived.Test.YtjdgfdpbiidldaaGreatDoorTr1
namespace Go.Proofs.YtjdgfdpbiidldaaGreatDoor
open Go.RowKit Go.Shelf

attribute [local go_sem] Oper.semAt_some

/-- what the text of a tree is made of -/
structure PartD where
  list : Bool
  kind : Int
  text : ByteArray
  at_ : Int
  kao : Option Addr
  kn : Nat
  kcap : Nat
  ends : Bool
  first : Bool
  depth : Int

def PartD.tree (p : PartD) : Array Value := #[.bool p.list, .int .u8 p.kind, .string p.text, .int .i64 p.at_, .slice p.kao p.kn p.kcap]
def PartD.encs (p : PartD) : Array Value := #[.agg #[.bool p.list, .int .u8 p.kind, .string p.text, .int .i64 p.at_, .slice p.kao p.kn p.kcap, .bool p.ends, .bool p.first, .int .i64 p.depth]]

theorem room_of_none {F : Fence} (hd : F.depth = none) (k : Nat) : F.room k := fun d h => by rw [hd] at h; cases h
theorem RoundIn.anyDepth {F : Fence} (hd : F.depth = none) {m m' : Nat} {P : Program} {l : Nat} {f : FuncId} {tmps : Array Value} {assign body : Code} {w : World} {R : Ending → World → Prop}
    (h : RoundIn F m P l f tmps assign body w R) : RoundIn F m' P l f tmps assign body w R := ⟨h.1, fun c cs _ => h.2 c cs (room_of_none hd _)⟩
theorem YieldAt.anyDepth {F : Fence} (hd : F.depth = none) {m : Nat} (m' : Nat) {P : Program} {l : Nat} {args : Array Value} {W : World} {R : Ending → World → Prop} (h : YieldAt F m P l args W R) : YieldAt F m' P l args W R := by
  obtain ⟨fn, tmps, assign, body, hy, hR⟩ := h
  exact ⟨fn, tmps, assign, body, hy, RoundIn.anyDepth hd hR⟩

/-- what lies in cells of other kinds than bytes, but for a few blocks, stays -/
def KpT (S : Nat → Prop) (W W' : World) : Prop := W.heap.size ≤ W'.heap.size ∧ ∀ k cs t fr, W.heap[k]? = some (.cells cs t fr) → t ≠ 5 → ¬ S k → W'.heap[k]? = some (.cells cs t fr)
theorem KpT.refl (S : Nat → Prop) (W : World) : KpT S W W := ⟨Nat.le_refl _, fun _ _ _ _ h _ _ => h⟩
theorem KpT.trans {S : Nat → Prop} {A B C : World} (h : KpT S A B) (k : KpT S B C) : KpT S A C := ⟨Nat.le_trans h.1 k.1, fun i cs t fr hi ht hs => k.2 i cs t fr (h.2 i cs t fr hi ht hs) ht hs⟩
theorem KpT.of_grownBy {S : Nat → Prop} {W W' : World} {row : Option Nat} (hg : W.grownBy W' row) (hr : ∀ r, row = some r → S r ∨ ∃ o, W.heap[r]? = some o ∧ o.isCells = false) : KpT S W W' := by
  refine ⟨hg.size, fun k cs t fr hk _ hs => ?_⟩
  rw [hg.block k (Array.getElem?_eq_some_iff.1 hk).1 (fun e => ?_)]
  · exact hk
  · rcases hr k e.symm with h | ⟨o, ho, hc⟩
    · exact hs h
    · rw [hk] at ho; cases ho; cases hc
theorem KpT.alloc (S : Nat → Prop) (W : World) (o : Obj) : KpT S W (W.alloc o) := KpT.of_grownBy (World.grownBy_alloc W o none) (fun r e => by cases e)
theorem KpT.boxed {S : Nat → Prop} {W W' : World} (h : KpT S W W') {B : Nat} {t : TypeId} {v : Value} (hb : Boxed W B t v) (ht : t ≠ 5) (hs : ¬ S B) : Boxed W' B t v := h.2 B _ _ _ hb ht hs

set_option maxHeartbeats 1000000 in
set_option maxRecDepth 100000 in
theorem visit_leaf (F : Fence) (hd : F.depth = none) (h189 : F.fn 189) (hro : F.round = none) (n l : Nat) (S : Nat → Prop) (p : PartD) (hp : p.list = false) (he : p.ends = false) (R : Ending → World → Prop) (W : World) (by_ bv : Nat)
    (hby : Boxed W by_ 321 (.func (.yield l) #[] #[]))
    (hy : ∀ W1, W.grownBy W1 none → YieldAt F (n - 1) Tryz.prog l p.encs W1 fun e W' => (e = .returned (.bool true) ∧ KpT S W1 W' ∧ R e W') ∨ (e = .returned (.bool false) ∧ R e W')) (hS : ∀ k, W.heap.size ≤ k → ¬ S k) :
    CallsIn F n Tryz.prog 189 #[.agg p.tree, .bool p.first, .int .i64 p.depth, .pointer (some ⟨by_, 0, none⟩), .pointer (some ⟨bv, 0, none⟩)] W R := by
  have hdd : ∀ k : Nat, (F.depth.isSome = true → 1 ≤ k) := fun k h => by rw [hd] at h; cases h
  have hy1 := hy (W.alloc (.cells p.tree 36)) (World.grownBy_alloc W _ none)
  have hcy := (hby.alloc (.cells p.tree 36)).cell
  obtain ⟨list, kind, text, at_, kao, kn, kcap, ends, first, depth⟩ := p
  simp only at hp he
  subst hp he
  simp only [PartD.tree, PartD.encs] at hy1 hcy ⊢
  obtain ⟨fn, tmps, assign, body, hyy, hR⟩ := hy1
  refine callsIn_of_wp Tryz.func189 rfl h189 ?_ hro
  simp only [Tryz.ntmps189, List.size_toArray, List.length_cons, List.length_nil, Nat.reduceAdd, Nat.reduceSub, Array.replicate_succ, Array.replicate_zero, List.push_toArray, List.append_toArray, List.nil_append, List.cons_append]
  gi_wp2
  refine hR.mono ?_
  rintro e W3 (⟨rfl, hk, hr⟩ | ⟨rfl, hr⟩)
  · have hb := hk.2 W.heap.size _ 36 (0, 0) (heap_alloc_new W _) (by decide) (hS _ (Nat.le_refl _))
    have c0 : W3.cell? ⟨W.heap.size, 0, none⟩ = some (.bool false) := by rw [Lib.cell_of_heap hb]; rfl
    gi_wp2
    exact hr
  · gi_wp2
    exact hr

set_option maxHeartbeats 1000000 in
set_option maxRecDepth 100000 in
/-- the iterator at a tree that is no list: one part -/
theorem leaf_stops {α : Type} (f : α → PartD) (a : α) (F : Fence) (hd : F.depth = none) (h188 : F.fn 188) (h189 : F.fn 189) (hro : F.round = none) (n : Nat) (S : Nat → Prop) (p : PartD) (hpa : f a = p) (hp : p.list = false) (he : p.ends = false) (hf : p.first = true) (hdp : p.depth = 0) (Bt : Nat) (w : World)
    (hBt : w.heap[Bt]? = some (.cells p.tree 36 (0, 0))) (hS : ∀ k, w.heap.size ≤ k → ¬ S k) :
    SeqStopsK F n Tryz.prog 188 #[.pointer (some ⟨Bt, 0, none⟩)] (fun x => (f x).encs) (KpT S) (fun ys => ys = [a]) (fun pre => pre <+: [a]) 1 w := by
  intro l J Jx W hW hJ _ hY h0
  have hdd : ∀ k : Nat, (F.depth.isSome = true → 1 ≤ k) := fun k h => by rw [hd] at h; cases h
  have hsz := hW.size
  have hBl : Bt < w.heap.size := (Array.getElem?_eq_some_iff.1 hBt).1
  have hB0 : W.heap[Bt]? = some (.cells p.tree 36 (0, 0)) := (hW.block Bt hBl).trans hBt
  have hY0 : ∀ W1, W.grownBy W1 none → YieldAt F (n - 1 - 1) Tryz.prog l p.encs W1 fun e W' => (e = .returned (.bool true) ∧ KpT S W1 W' ∧ ((e = .returned (.bool true) ∧ J [a] W') ∨ (e = .returned (.bool false) ∧ Jx [a] W'))) ∨ (e = .returned (.bool false) ∧ ((e = .returned (.bool true) ∧ J [a] W') ∨ (e = .returned (.bool false) ∧ Jx [a] W'))) := by
    intro W1 hg
    have hJ1 : J [] W1 := hJ [] W W1 none h0 hg (fun r e => by cases e)
    have hya := hY [] a W1 hJ1 (by simp)
    simp only [hpa] at hya
    refine YieldAt.mono (YieldAt.anyDepth hd _ hya) ?_
    rintro e W' (⟨rfl, h1, h2⟩ | ⟨rfl, h1⟩)
    · exact .inl ⟨rfl, h2, .inl ⟨rfl, h1⟩⟩
    · exact .inr ⟨rfl, .inr ⟨rfl, h1⟩⟩
  have hv : ∀ (y : Value), CallsIn F (n - 1) Tryz.prog 189 #[.agg p.tree, .bool p.first, .int .i64 p.depth, .pointer (some ⟨W.heap.size, 0, none⟩), .pointer (some ⟨W.heap.size + 1, 0, none⟩)] ((W.alloc (.cells #[.func (.yield l) #[] #[]] 321)).alloc (.cells #[y] 322)) fun e W' => (e = .returned (.bool true) ∧ J [a] W') ∨ (e = .returned (.bool false) ∧ Jx [a] W') := by
    intro y
    have hb := ((Boxed.new W 321 (.func (.yield l) #[] #[])).alloc (.cells #[y] 322))
    have hg2 : W.grownBy ((W.alloc (.cells #[.func (.yield l) #[] #[]] 321)).alloc (.cells #[y] 322)) none :=
      ⟨rfl, rfl, rfl, by simp; omega, fun k hk _ => by rw [Lib.alloc_old _ _ k (by simp; omega), Lib.alloc_old _ _ k hk]⟩
    refine visit_leaf F hd h189 hro (n - 1) l S p hp he _ _ W.heap.size (W.heap.size + 1) hb (fun W1 hg => hY0 W1 ?_) (fun k hk => hS k ?_)
    · exact ⟨hg.os.trans hg2.os, hg.tape.trans hg2.tape, hg.output.trans hg2.output, Nat.le_trans hg2.size hg.size, fun k hk hn => (hg.block k (by have := hg2.size; omega) hn).trans (hg2.block k hk hn)⟩
    · have := hg2.size; omega
  have c0 : ∀ c, c < 5 → ∀ o1 o2, ((W.alloc o1).alloc o2).cell? ⟨Bt, c, none⟩ = p.tree[c]? := fun c _ o1 o2 => by
    rw [Lib.cell_of_heap (show ((W.alloc o1).alloc o2).heap[Bt]? = _ by rw [Lib.alloc_old _ _ Bt (by simp; omega), Lib.alloc_old _ _ Bt (by omega)]; exact hB0)]
  have t0 := c0 0 (by omega)
  have t1 := c0 1 (by omega)
  have t2 := c0 2 (by omega)
  have t3 := c0 3 (by omega)
  have t4 := c0 4 (by omega)
  clear c0 hB0 hY0 hY h0 hpa
  obtain ⟨list, kind, text, at_, kao, kn, kcap, ends, first, depth⟩ := p
  simp only at hf hdp
  subst hf hdp
  simp only [PartD.tree, List.getElem?_toArray, List.getElem?_cons_zero, List.getElem?_cons_succ] at t0 t1 t2 t3 t4
  simp only [PartD.tree] at hv
  show CallsIn F n Tryz.prog 188 #[.func (.yield l) #[] #[], .pointer (some ⟨Bt, 0, none⟩)] W _
  refine callsIn_of_wp Tryz.func188 rfl h188 ?_ hro
  simp only [Tryz.ntmps188, List.size_toArray, List.length_cons, List.length_nil, Nat.reduceAdd, Nat.reduceSub, Array.replicate_succ, Array.replicate_zero, List.push_toArray, List.append_toArray, List.nil_append, List.cons_append]
  gi_wp2_with ((try refine ⟨hdd _, ?_⟩); gi_at_call 189; refine (hv _).mono ?_; rintro e W1 (⟨rfl, hJ1⟩ | ⟨rfl, hx⟩))
  all_goals go_end0
  all_goals first | exact ⟨⟨_, rfl⟩, .inl ⟨_, rfl, hJ1⟩⟩ | exact ⟨⟨_, rfl⟩, .inr ⟨_, List.prefix_refl _, hx⟩⟩

set_option maxHeartbeats 1000000 in
theorem parts_in (F : Fence) (h126 : F.fn 126) (hro : F.round = none) (n : Nat) (p : PartD) (w : World) :
    CallsIn F n Tryz.prog 126 #[.agg p.tree] w fun e w' => e = .returned (.func (.func 188) #[] #[.pointer (some ⟨w.heap.size, 0, none⟩)]) ∧ w' = w.alloc (.cells p.tree 36) := by
  obtain ⟨list, kind, text, at_, kao, kn, kcap, ends, first, depth⟩ := p
  simp only [PartD.tree]
  refine callsIn_of_wp Tryz.func126 rfl h126 ?_ hro
  simp only [Tryz.ntmps126, List.size_toArray, List.length_cons, List.length_nil, Nat.reduceAdd, Nat.reduceSub, Array.replicate_succ, Array.replicate_zero, List.push_toArray, List.append_toArray, List.nil_append, List.cons_append]
  gi_wp2
  go_ret
  exact ⟨rfl, rfl⟩
end Go.Proofs.YtjdgfdpbiidldaaGreatDoor
