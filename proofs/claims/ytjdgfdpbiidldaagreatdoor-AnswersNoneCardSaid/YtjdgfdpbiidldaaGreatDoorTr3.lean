/-
  Layer 4 (tree): Text, at a tree that is no list. Conditions: what token answers at it (a contract), and that the text takes at most 2^40 bytes.
-/
import Derived.Test.YtjdgfdpbiidldaaGreatDoorTr2
import Derived.Test.YtjdgfdpbiidldaaGreatDoorBld
namespace Go.Proofs.YtjdgfdpbiidldaaGreatDoor
open Go.RowKit Go.Shelf

attribute [local go_sem] Oper.semAt_some

theorem isBuilderF_grown {B b : Nat} {bs : List Value} {W W' : World} {row : Option Nat} (h : Lib.IsBuilderF 240 5 B b bs W) (hg : W.grownBy W' row) (hr : ∀ r, row = some r → ∃ o : Obj, W.heap[r]? = some o ∧ o.isCells = false) : Lib.IsBuilderF 240 5 B b bs W' := by
  have one : ∀ q, Lib.BuilderAtF 240 5 B b q bs W → Lib.BuilderAtF 240 5 B b q bs W' := by
    rintro q ⟨hB, v, hb, hown, hne⟩
    refine ⟨hB, v, ?_, hown.kept hg ?_, hne⟩
    · rw [hg.block b (Array.getElem?_eq_some_iff.1 hb).1 (fun e => ?_)]
      · exact hb
      · obtain ⟨o, ho, hc⟩ := hr b e.symm
        rw [hb] at ho; cases ho; cases hc
    · cases hv : v.ownBlock with
      | none => exact .inl rfl
      | some g =>
        refine .inr (fun e => ?_)
        obtain ⟨o, ho, hc⟩ := hr g e.symm
        rcases hown.2 with ⟨rfl, _⟩ | ⟨g', cap, cur, fz, rfl, _, hh, _⟩
        · simp [Value.ownBlock] at hv
        · simp [Value.ownBlock] at hv
          subst hv
          rw [hh] at ho; cases ho; cases hc
  exact h.elim (fun x => .inl (one _ x)) (fun x => .inr (one _ x))

theorem setCell_id {W : World} {b : Nat} {t : TypeId} {v : Value} {fr : Nat × Nat} (h : W.heap[b]? = some (.cells #[v] t fr)) : W.setCell ⟨b, 0, none⟩ v = W := by
  have e : (W.setCell ⟨b, 0, none⟩ v).heap = W.heap := by
    apply Array.ext_getElem?
    intro j
    by_cases hj : j = b
    · subst hj
      show (W.heap.modify j _)[j]? = _
      rw [Array.getElem?_modify]
      simp [h]
    · exact Below.heap_setCell _ _ _ _ hj
  show ({ W with heap := (W.setCell ⟨b, 0, none⟩ v).heap } : World) = W
  rw [e]
theorem boxed_other {W : World} {b b' : Nat} {t : TypeId} {v : Value} (h : Boxed W b t v) (o : Nat) (u : Value) (hne : b ≠ b') : Boxed (W.setCell ⟨b', o, none⟩ u) b t v := by
  show _ = _
  rw [Below.heap_setCell _ _ _ _ hne]; exact h
theorem boxed_okept {W W' : World} {b bb : Nat} {t : TypeId} {v : Value} (h : Boxed W b t v) (k : Lib.OthersKept 5 (some bb) W W') (hne : b ≠ bb) (ht : t ≠ 5) : Boxed W' b t v :=
  k b _ h (fun e => hne (Option.some.inj e)) (fun c fz e => by cases e; exact ht rfl)

theorem boxed_own {W W' : World} {row : Option Nat} {b : Nat} {t : TypeId} {v : Value} (h : Boxed W b t v) (hg : W.grownBy W' row) (hr : ∀ r, row = some r → ∃ o : Obj, W.heap[r]? = some o ∧ o.isCells = false) : Boxed W' b t v :=
  h.kept hg (fun e => by
    obtain ⟨o, ho, hc⟩ := hr b e.symm
    rw [show W.heap[b]? = _ from h] at ho; cases ho; cases hc)

theorem grownBy_of_all {W W' : World} (h : Below W.heap.size W W') : W.grownBy W' none := ⟨h.os, h.tape, h.output, h.size, fun k hk _ => h.block k hk⟩
theorem keepsOthers_of_grownBy {W W' : World} {row : Option Nat} (hg : W.grownBy W' row) (hr : ∀ r, row = some r → ∃ cs t fr, W.heap[r]? = some (.cells cs t fr)) : KeepsOthers W W' :=
  ⟨hg.size, fun k o hk ho => by
    rw [hg.block k (Array.getElem?_eq_some_iff.1 hk).1 (fun e => ?_)]
    · exact hk
    · obtain ⟨cs, t, fr, hh⟩ := hr k e.symm
      rw [hk] at hh; cases hh; cases ho⟩
theorem keepsOthers_of_othersKept {b : Nat} {W W' : World} (h : Lib.OthersKept 5 (some b) W W') (hs : W.heap.size ≤ W'.heap.size) (hb : ∃ cs t fr, W.heap[b]? = some (.cells cs t fr)) : KeepsOthers W W' :=
  ⟨hs, fun k o hk ho => h k o hk (fun e => by obtain ⟨cs, t, fr, hh⟩ := hb; cases e; rw [hk] at hh; cases hh; cases ho) (fun c fz e => by subst e; cases ho)⟩
theorem kpT_of_othersKept {S : Nat → Prop} {b : Nat} {W W' : World} (h : Lib.OthersKept 5 (some b) W W') (hs : W.heap.size ≤ W'.heap.size) (hb : S b) : KpT S W W' :=
  ⟨hs, fun k cs t fr hk ht hS => h k _ hk (fun e => by cases e; exact hS hb) (fun c fz e => by cases e; exact ht rfl)⟩

set_option maxHeartbeats 4000000 in
set_option maxRecDepth 100000 in
theorem text_leaf (p : PartD) (str : ByteArray) (ok : Bool) (w : World) (hp : p.list = false) (hk : p.kn = 0) (he : p.ends = false) (hf : p.first = true) (hdp : p.depth = 0) (hs : str.size ≤ 1099511627776)
    (htok : ∀ W, Calls Tryz.prog 128 #[.agg #[.int .u8 p.kind, .string p.text, .int .i64 p.at_]] W fun e W' => e = .returned (.tuple #[.string str, .bool ok]) ∧ Below W.heap.size W W') :
    Calls Tryz.prog 58 #[.agg p.tree] w fun e w' => e = .returned (.tuple (if ok then (if 1048576 < str.size then #[.string ⟨#[]⟩, .int .i64 3] else #[.string str, .int .i64 0]) else #[.string ⟨#[]⟩, .int .i64 5])) ∧ Below w.heap.size w w' := by
  refine (callsIn_wide (n := 8)).1 ?_
  have hpt : p.tree = #[.bool false, .int .u8 p.kind, .string p.text, .int .i64 p.at_, .slice p.kao 0 p.kcap] := by rw [PartD.tree, hp, hk]
  have hpe : p.encs = #[.agg #[.bool false, .int .u8 p.kind, .string p.text, .int .i64 p.at_, .slice p.kao 0 p.kcap, .bool false, .bool true, .int .i64 0]] := by rw [PartD.encs, hp, hk, he, hf, hdp]
  have hpi := fun w => parts_in Fence.wide trivial rfl 7 p w
  have hst := fun (S : Nat → Prop) (Bt : Nat) (w : World) => leaf_stops (α := Unit) (fun _ => p) () Fence.wide rfl trivial trivial rfl 7 S p rfl hp he hf hdp Bt w
  rw [hpt] at hpi hst ⊢
  refine callsIn_of_wp_marks Tryz.func58 rfl trivial ?_ rfl
  simp only [Tryz.ntmps58, List.size_toArray, List.length_cons, List.length_nil, Nat.reduceAdd, Nat.reduceSub, Array.replicate_succ, Array.replicate_zero, List.push_toArray, List.append_toArray, List.nil_append, List.cons_append]
  gi_wp2_with (refine ⟨trivial, ?_⟩; gi_at_call 126; refine (hpi _).mono ?_; rintro e w' ⟨rfl, rfl⟩)
  obtain ⟨o0, ho0⟩ : ∃ o : Obj, o = .cells #[.bool false, .int .u8 p.kind, .string p.text, .int .i64 p.at_, .slice p.kao 0 p.kcap] 36 := ⟨_, rfl⟩
  rw [← ho0]
  obtain ⟨W0, hW0⟩ : ∃ W0, W0 = (((((w.alloc o0).alloc (.cells #[.string ⟨#[]⟩] 9)).alloc (.cells #[.int .i64 0] 42)).alloc (.cells #[.pointer none, .slice none 0 0] 240)).alloc (.cells #[.bool false] 4)).alloc o0 := ⟨_, rfl⟩
  have b1 : Boxed W0 (w.heap.size + 1) 9 (.string ⟨#[]⟩) := by
    have h := ((((Boxed.new (w.alloc o0) 9 (.string ⟨#[]⟩)).alloc (.cells #[.int .i64 0] 42)).alloc (.cells #[.pointer none, .slice none 0 0] 240)).alloc (.cells #[.bool false] 4)).alloc o0
    rw [World.size_alloc] at h; rw [hW0]; exact h
  have b2 : Boxed W0 (w.heap.size + 1 + 1) 42 (.int .i64 0) := by
    have h := (((Boxed.new ((w.alloc o0).alloc (.cells #[.string ⟨#[]⟩] 9)) 42 (.int .i64 0)).alloc (.cells #[.pointer none, .slice none 0 0] 240)).alloc (.cells #[.bool false] 4)).alloc o0
    simp only [World.size_alloc] at h; rw [hW0]; exact h
  have b4 : Boxed W0 (w.heap.size + 1 + 1 + 1 + 1) 4 (.bool false) := by
    have h := (Boxed.new ((((w.alloc o0).alloc (.cells #[.string ⟨#[]⟩] 9)).alloc (.cells #[.int .i64 0] 42)).alloc (.cells #[.pointer none, .slice none 0 0] 240)) 4 (.bool false)).alloc o0
    simp only [World.size_alloc] at h; rw [hW0]; exact h
  have b3 : Lib.IsBuilderF 240 5 w.heap.size (w.heap.size + 1 + 1 + 1) [] W0 := by
    have h : Lib.BuilderAtF 240 5 w.heap.size (w.heap.size + 1 + 1 + 1) (.pointer none) [] ((((w.alloc o0).alloc (.cells #[.string ⟨#[]⟩] 9)).alloc (.cells #[.int .i64 0] 42)).alloc (.cells #[.pointer none, .slice none 0 0] 240)) := by
      refine ⟨by omega, .slice none 0 0, ?_, World.ownsRowF_nil _ _ _ _, by simp [Value.ownBlock]⟩
      have := heap_alloc_new (((w.alloc o0).alloc (.cells #[.string ⟨#[]⟩] 9)).alloc (.cells #[.int .i64 0] 42)) (.cells #[.pointer none, .slice none 0 0] 240)
      simpa using this
    rw [hW0]
    exact .inl ((h.alloc _).alloc _)
  have b5 : W0.heap[w.heap.size + 1 + 1 + 1 + 1 + 1]? = some o0 := by
    have := heap_alloc_new (((((w.alloc o0).alloc (.cells #[.string ⟨#[]⟩] 9)).alloc (.cells #[.int .i64 0] 42)).alloc (.cells #[.pointer none, .slice none 0 0] 240)).alloc (.cells #[.bool false] 4)) o0
    rw [hW0]; simpa using this
  have hsz : W0.heap.size = w.heap.size + 6 := by rw [hW0]; simp
  have hB0 : Below w.heap.size w W0 := by
    rw [hW0]
    exact ((((((Below.refl _ w).alloc (Nat.le_refl _) _).alloc (by simp) _).alloc (by simp; omega) _).alloc (by simp; omega) _).alloc (by simp; omega) _).alloc (by simp; omega) _
  rw [← hW0]
  rw [ho0] at b5
  have hst := hst (fun k => k = w.heap.size + 1 ∨ k = w.heap.size + 1 + 1 ∨ k = w.heap.size + 1 + 1 + 1 ∨ k = w.heap.size + 1 + 1 + 1 + 1) _ W0 b5 (fun k hk => by omega)
  clear hW0 ho0 hpi
  refine wpIn_rangeFunc_ownH rfl (by omega) (gf := 188) (lb := #[.pointer (some ⟨w.heap.size + 1 + 1 + 1 + 1 + 1, 0, none⟩)]) rfl trivial (enters_of Tryz.func188 (by kernel_rfl) rfl)
    hst KpT.trans ?kb (Below.refl _ _) (fun _ => by rw [hpe]; rfl)
    (fun pre W => ((Boxed W (w.heap.size + 1) 9 (.string ⟨#[]⟩) ∧ Boxed W (w.heap.size + 1 + 1) 42 (.int .i64 0) ∧ Boxed W (w.heap.size + 1 + 1 + 1 + 1) 4 (.bool false)) ∧ (Lib.IsBuilderF 240 5 w.heap.size (w.heap.size + 1 + 1 + 1) (if pre = [] then [] else Lib.strCells str) W ∧ (pre ≠ [] → ok = true))) ∧ Below w.heap.size w W)
    (fun c _ W => ((c = .ret ∧ ok = false) ∧ Boxed W (w.heap.size + 1) 9 (.string ⟨#[]⟩) ∧ Boxed W (w.heap.size + 1 + 1) 42 (.int .i64 5)) ∧ Below w.heap.size w W)
    ?hI ?hIx ⟨⟨⟨b1, b2, b4⟩, b3, fun h => (h rfl).elim⟩, hB0⟩
    (fun _ a' W => ∃ Bx, w.heap.size + 5 ≤ Bx ∧ W.heap[Bx]? = some (.cells #[.bool false, .int .u8 p.kind, .string p.text, .int .i64 p.at_, .slice p.kao 0 p.kcap, .bool false, .bool true, .int .i64 0] 245 (0, 0)) ∧ a' = { tmps := #[.agg #[.bool false, .int .u8 p.kind, .string p.text, .int .i64 p.at_, .slice p.kao 0 p.kcap], .pointer (some ⟨w.heap.size, 0, none⟩), .pointer (some ⟨w.heap.size + 1, 0, none⟩), .pointer (some ⟨w.heap.size + 1 + 1, 0, none⟩), .pointer (some ⟨w.heap.size + 1 + 1 + 1, 0, none⟩), .pointer (some ⟨w.heap.size + 1 + 1 + 1 + 1, 0, none⟩), .pointer (some ⟨Bx, 0, none⟩), undef, undef, .agg #[.bool false, .int .u8 p.kind, .string p.text, .int .i64 p.at_, .slice p.kao 0 p.kcap], .func (.func 188) #[] #[.pointer (some ⟨w.heap.size + 1 + 1 + 1 + 1 + 1, 0, none⟩)], .agg #[.bool false, .int .u8 p.kind, .string p.text, .int .i64 p.at_, .slice p.kao 0 p.kcap, .bool false, .bool true, .int .i64 0], undef, undef, undef, undef, undef, undef, undef, undef, undef, undef, undef, undef, undef, undef, undef, undef, undef, undef, undef, undef, undef, undef, undef, undef, undef, undef, undef, undef, undef, undef, undef, undef, undef, undef, undef, undef, undef, undef, undef, undef, undef, undef, undef, undef, undef, undef, undef, undef, undef, undef, undef, undef, undef, undef, undef, undef, undef, undef], defers := [] })
    ?hAx ?assign ?body ?done ?stop
  case kb => exact fun W l o o' _ h hc _ => KpT.of_grownBy (grownBy_putObj' W l o') (fun r e => by cases e; exact .inr ⟨o, h, hc⟩)
  case hI =>
    rintro s W W' row ⟨⟨⟨h1, h2, h4⟩, h3, h5⟩, hB⟩ hg hr
    have hr2 := fun r e => (hr r e).2
    exact ⟨⟨⟨boxed_own h1 hg hr2, boxed_own h2 hg hr2, boxed_own h4 hg hr2⟩, isBuilderF_grown h3 hg hr2, h5⟩, hB.grown hg hB.size (fun k e => by have := (hr k e).1; omega)⟩
  case hIx =>
    rintro c s W W' row ⟨⟨h0, h1, h2⟩, hB⟩ hg hr
    have hr2 := fun r e => (hr r e).2
    exact ⟨⟨h0, boxed_own h1 hg hr2, boxed_own h2 hg hr2⟩, hB.grown hg hB.size (fun k e => by have := (hr k e).1; omega)⟩
  case hAx =>
    rintro x a' s W W' row ⟨Bx, h1, h2, h3⟩ hg hr
    refine ⟨Bx, h1, ?_, h3⟩
    rw [hg.block Bx (Array.getElem?_eq_some_iff.1 h2).1 (fun e => by obtain ⟨o, ho, hc⟩ := (hr Bx e.symm).2; rw [h2] at ho; cases ho; cases hc)]
    exact h2
  case assign =>
    rintro l pre x W K hi hK
    simp only [hpe]
    gi_wp2
    have hlt := hi.1.1.2.2.lt
    obtain ⟨⟨⟨h1, h2, h4⟩, h3, h5⟩, hB⟩ := hi
    exact hK _ _ ((KeepsOthers.alloc _ _).from _) (KpT.alloc _ _ _) ⟨⟨⟨h1.alloc _, h2.alloc _, h4.alloc _⟩, isBuilderF_grown h3 (World.grownBy_alloc W _ none) (fun r e => by cases e), h5⟩, hB.alloc hB.size _⟩ ⟨W.heap.size, by omega, heap_alloc_new W _, rfl⟩
  case body =>
    rintro l pre x a' W hl - ⟨⟨⟨h1, h2, h4⟩, h3, h5⟩, hB⟩ ⟨Bx, hBx, hx, rfl⟩ hpre
    have hp0 : pre = [] := by cases pre with
      | nil => rfl
      | cons => simp at hpre
    subst hp0
    have x0 : W.cell? ⟨Bx, 0, none⟩ = some (.bool false) := by rw [Lib.cell_of_heap hx]; rfl
    have x1 : W.cell? ⟨Bx, 1, none⟩ = some (.int .u8 p.kind) := by rw [Lib.cell_of_heap hx]; rfl
    have x2 : W.cell? ⟨Bx, 2, none⟩ = some (.string p.text) := by rw [Lib.cell_of_heap hx]; rfl
    have x3 : W.cell? ⟨Bx, 3, none⟩ = some (.int .i64 p.at_) := by rw [Lib.cell_of_heap hx]; rfl
    have x4 : W.cell? ⟨Bx, 4, none⟩ = some (.slice p.kao 0 p.kcap) := by rw [Lib.cell_of_heap hx]; rfl
    have x5 : W.cell? ⟨Bx, 5, none⟩ = some (.bool false) := by rw [Lib.cell_of_heap hx]; rfl
    have x6 : W.cell? ⟨Bx, 6, none⟩ = some (.bool true) := by rw [Lib.cell_of_heap hx]; rfl
    have x7 : W.cell? ⟨Bx, 7, none⟩ = some (.int .i64 0) := by rw [Lib.cell_of_heap hx]; rfl
    have y0 := h4.cell
    have y1 := h4.frozen
    have hne : Bx ≠ w.heap.size + 1 + 1 + 1 + 1 := by omega
    gi_wp2
    rw [setCell_id h4]
    refine ⟨trivial, ?_⟩
    refine (CallsIn.inRound l (callsIn_wide.2 (htok W))).mono ?_
    rintro e W2 ⟨rfl, hb2⟩
    have hg2 := grownBy_of_all hb2
    have hk2 : KeepsOthers W W2 := keepsOthers_of_grownBy hg2 (fun r e => by cases e)
    have hp2 := KpT.of_grownBy (S := fun k => k = w.heap.size + 1 ∨ k = w.heap.size + 1 + 1 ∨ k = w.heap.size + 1 + 1 + 1 ∨ k = w.heap.size + 1 + 1 + 1 + 1) hg2 (fun r e => by cases e)
    have h1 := boxed_own h1 hg2 (fun r e => by cases e)
    have h2 := boxed_own h2 hg2 (fun r e => by cases e)
    have h4 := boxed_own h4 hg2 (fun r e => by cases e)
    have h3 := isBuilderF_grown h3 hg2 (fun r e => by cases e)
    have x4 : W2.cell? ⟨Bx, 4, none⟩ = some (.slice p.kao 0 p.kcap) := by rw [hb2.cell (p := ⟨Bx, 4, none⟩) (Array.getElem?_eq_some_iff.1 hx).1]; exact x4
    have hB2 := hB.trans (hb2.mono hB.size)
    clear x0 x1 x2 x3 x5 x6 x7 y0 y1 hne hg2 hb2 hB
    cases ok with
    | false =>
      have y0 := h1.cell
      have y1 := h1.frozen
      have z0 := h2.cell
      have z1 := h2.frozen
      gi_wp2
      exact ⟨(hk2.trans ((KeepsOthers.setCell _ _ _).trans (KeepsOthers.setCell _ _ _))).from _, ⟨rfl, boxed_other (h1.set _) _ _ (by omega), (boxed_other h2 _ _ (by omega)).set _⟩, (hB2.setCell (p := ⟨w.heap.size + 1, 0, none⟩) (by simp) _).setCell (p := ⟨w.heap.size + 1 + 1, 0, none⟩) (by show _ ≤ w.heap.size + 1 + 1; omega) _⟩
    | true =>
      have h3' : Lib.IsBuilderF 240 5 w.heap.size (w.heap.size + 1 + 1 + 1) [] W2 := h3
      have hbc : ∃ cs t fr, W2.heap[w.heap.size + 1 + 1 + 1]? = some (.cells cs t fr) := by
        rcases h3' with ⟨_, v, hb, _⟩ | ⟨_, v, hb, _⟩ <;> exact ⟨_, _, _, hb⟩
      gi_wp2_with (refine ⟨trivial, ?_⟩; gi_at_call 129; refine (CallsIn.inRound l (callsIn_wide.2 (writeString_k w.heap.size (w.heap.size + 1 + 1 + 1) [] str W2 h3' (by simp; omega) hB2.size))).mono ?_; rintro e W3 ⟨rfl, hb3, hB3, hO3⟩)
      exact ⟨(hk2.trans (keepsOthers_of_othersKept hO3 hB3.size hbc)).from _, hp2.trans (kpT_of_othersKept hO3 hB3.size (.inr (.inr (.inl rfl)))), ⟨⟨boxed_okept h1 hO3 (by omega) (by decide), boxed_okept h2 hO3 (by omega) (by decide), boxed_okept h4 hO3 (by omega) (by decide)⟩, .inr (by simpa using hb3)⟩, hB2.trans hB3⟩
  case done =>
    rintro D ys W hD rfl ⟨⟨⟨h1, h2, h4⟩, h3, h5⟩, hB⟩ hK
    obtain rfl : ok = true := h5 (by simp)
    rw [if_neg (by simp)] at h3
    have y4 := h4.cell
    have y0 := h1.cell
    have y1 := h1.frozen
    have z0 := h2.cell
    have z1 := h2.frozen
    have hlen : (Lib.strCells str).length = str.size := Lib.strCells_length str
    gi_wp2_with (refine ⟨trivial, ?_⟩; gi_at_call 130; refine (callsIn_wide.2 (Tryz.Builder_Len_f w.heap.size (w.heap.size + 1 + 1 + 1) (Lib.strCells str) W h3)).mono ?_; rintro e w' ⟨rfl, rfl⟩; rw [hlen])
    · have hFK := ((KeepsOthers.setCell w' ⟨w.heap.size + 1, 0, none⟩ (.string ⟨#[]⟩)).trans (KeepsOthers.setCell _ ⟨w.heap.size + 1 + 1, 0, none⟩ (.int .i64 3))).same D _ hK rfl
      have hF3 := (boxed_own (boxed_other (h1.set (.string ⟨#[]⟩)) (b' := w.heap.size + 1 + 1) 0 (.int .i64 3) (by omega)) (grownBy_putObj' _ D (.deferred none)) (fun r e => by cases e; exact ⟨_, hFK, rfl⟩)).cell
      have hF4 := (boxed_own ((boxed_other h2 (b' := w.heap.size + 1) 0 (.string ⟨#[]⟩) (by omega)).set (.int .i64 3)) (grownBy_putObj' _ D (.deferred none)) (fun r e => by cases e; exact ⟨_, hFK, rfl⟩)).cell
      have hFB := (hB.setCell (p := ⟨w.heap.size + 1, 0, none⟩) (by simp) (.string ⟨#[]⟩)).setCell (p := ⟨w.heap.size + 1 + 1, 0, none⟩) (by show _ ≤ w.heap.size + 1 + 1; omega) (.int .i64 3)
      refine ⟨by simp, .inl ⟨_, _, rfl, run_takeDeferred hFK, ?_⟩⟩
      refine ⟨.tuple #[.string ⟨#[]⟩, .int .i64 3], ?_, rfl, hFB.trans (belowK_b (w := w) (Nat.le_refl _) _ D _ _ (by omega) hFK rfl rfl)⟩
      simp [results, Tryz.f58, go_sem, hF3, hF4]
    · refine ⟨trivial, ?_⟩
      refine (callsIn_wide.2 (Tryz.Builder_String_any_k w.heap.size (w.heap.size + 1 + 1 + 1) str.data.toList w' h3 hB.size)).mono ?_
      rintro e W3 ⟨rfl, _, hB3, hO3⟩
      have hK3 := hO3 D _ hK (fun e => by
        have hD3 := Option.some.inj e
        subst hD3
        rcases h3 with ⟨_, v, hb, _⟩ | ⟨_, v, hb, _⟩ <;> (rw [hb] at hK; cases hK)) (fun c fz e => by cases e)
      have h1 := boxed_okept h1 hO3 (by omega) (by decide)
      have h2 := boxed_okept h2 hO3 (by omega) (by decide)
      have hB := hB.trans hB3
      have y0 := h1.cell
      have y1 := h1.frozen
      have z0 := h2.cell
      have z1 := h2.frozen
      gi_wp2
      have hFK := ((KeepsOthers.setCell W3 ⟨w.heap.size + 1, 0, none⟩ (.string str)).trans (KeepsOthers.setCell _ ⟨w.heap.size + 1 + 1, 0, none⟩ (.int .i64 0))).same D _ hK3 rfl
      have hF3 := (boxed_own (boxed_other (h1.set (.string str)) (b' := w.heap.size + 1 + 1) 0 (.int .i64 0) (by omega)) (grownBy_putObj' _ D (.deferred none)) (fun r e => by cases e; exact ⟨_, hFK, rfl⟩)).cell
      have hF4 := (boxed_own ((boxed_other h2 (b' := w.heap.size + 1) 0 (.string str) (by omega)).set (.int .i64 0)) (grownBy_putObj' _ D (.deferred none)) (fun r e => by cases e; exact ⟨_, hFK, rfl⟩)).cell
      have hFB := (hB.setCell (p := ⟨w.heap.size + 1, 0, none⟩) (by simp) (.string str)).setCell (p := ⟨w.heap.size + 1 + 1, 0, none⟩) (by show _ ≤ w.heap.size + 1 + 1; omega) (.int .i64 0)
      refine ⟨by simp, .inl ⟨_, _, rfl, run_takeDeferred hFK, ?_⟩⟩
      refine ⟨.tuple #[.string str, .int .i64 0], ?_, rfl, hFB.trans (belowK_b (w := w) (Nat.le_refl _) _ D _ _ (by omega) hFK rfl rfl)⟩
      simp [results, Tryz.f58, go_sem, hF3, hF4]
  case stop =>
    rintro D c pre W hD hpre ⟨⟨⟨rfl, rfl⟩, h1, h2⟩, hB⟩ hK
    gi_wp2
    have hF3 := (boxed_own h1 (grownBy_putObj' _ D (.deferred none)) (fun r e => by cases e; exact ⟨_, hK, rfl⟩)).cell
    have hF4 := (boxed_own h2 (grownBy_putObj' _ D (.deferred none)) (fun r e => by cases e; exact ⟨_, hK, rfl⟩)).cell
    refine ⟨by simp, .inl ⟨_, _, rfl, run_takeDeferred hK, ?_⟩⟩
    refine ⟨.tuple #[.string ⟨#[]⟩, .int .i64 5], ?_, rfl, hB.trans (belowK_b (w := w) (Nat.le_refl _) _ D _ _ (by omega) hK rfl rfl)⟩
    simp [results, Tryz.f58, go_sem, hF3, hF4]
end Go.Proofs.YtjdgfdpbiidldaaGreatDoor
