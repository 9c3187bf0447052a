/-
  The document's trees (juristref04): tree of tokens that spell one. Conditions: sizes; the tokens lie where they are said to lie.
  The document's trees (juristref04): Next at the begin of tokens that spell a tree. Conditions: sizes; depth at most 200; the tokens lie where they are said to lie.
  Layer 6 (terms): put of a new node without arguments. Conditions: room in the store; the store lies there.
  Layer 6 (terms): none, New, Num over a new store. Conditions: the number is in bounds; the store lies there.
  The document's table of names (juristref05): each of its functions answers something, and its table lies on. Only what a caller needs that looks at no answer of it. Conditions: sizes.
  The document's table of names (juristref05): DeclareSort. Only what a caller needs that looks at no answer of it. Conditions: sizes.
  Layer 27's statements: tables, of one sort. No condition but that the definition lies there.
-/
import Derived.Test.YtjdgfdpbiidldaaGreatDoorRdM6
import Derived.Test.YtjdgfdpbiidldaaGreatDoorRdM4
import Derived.Deep.DeepCutAuto
namespace Go.Proofs.YtjdgfdpbiidldaaGreatDoor
open Go.RowKit

def TreeD.isList : TreeD → Bool | .mk l _ _ _ _ => l
def TreeD.kind : TreeD → Int | .mk _ k _ _ _ => k
def TreeD.text : TreeD → ByteArray | .mk _ _ t _ _ => t
def TreeD.pos : TreeD → Int | .mk _ _ _ a _ => a
def TreeD.kids : TreeD → List TreeD | .mk _ _ _ _ ks => ks

theorem info36 : (Tryz.prog.info? 36).map (fun i => (i.zero, i.size, i.bytes)) = some (some (.agg #[.bool false, .int .u8 0, .string ⟨#[]⟩, .int .i64 0, .slice none 0 0]), 5, 64) := by kernel_rfl

/-- what tree answers at tokens that spell a tree -/
def TreeOf (ts : List TokD) (t : TreeD) : Prop :=
  ∀ (g o cap : Nat) (w : World), ToksAt w g o ts → g < w.heap.size → ts.length ≤ 1048576 → ts.length ≤ cap →
    Calls Tryz.prog 79 #[.slice (some ⟨g, o, none⟩) ts.length cap] w fun e w' => ∃ ao c, e = .returned (.agg #[.bool t.isList, .int .u8 t.kind, .string t.text, .int .i64 t.pos, .slice ao t.kids.length c]) ∧
      TreeAt w' (fun k => w.heap.size ≤ k ∧ k < w'.heap.size) t [.bool t.isList, .int .u8 t.kind, .string t.text, .int .i64 t.pos, .slice ao t.kids.length c] ∧ Below w.heap.size w w'

set_option maxHeartbeats 2000000 in
set_option maxRecDepth 100000 in
theorem treeOf_leaf (t : TokD) (h1 : t.kind ≠ 1) : TreeOf [t] (.mk false t.kind ⟨t.text.toArray⟩ t.at_ []) := by
  intro g o cap w hb hg _ _
  have hb2 := hb.below ((Below.refl _ w).alloc (Nat.le_refl _) (.cells #[.bool false, .int .u8 0, .string ⟨#[]⟩, .int .i64 0, .slice none 0 0] 36)) hg
  obtain ⟨c0, c1, c2⟩ := hb2 0 t rfl
  simp only [Nat.zero_mul, Nat.add_zero] at c0 c1 c2
  have e1 : (t.kind == 1) = false := by rw [beq_eq_false_iff_ne]; exact h1
  simp only [TreeD.isList, TreeD.kind, TreeD.text, TreeD.pos, TreeD.kids, List.length_nil, List.length_cons]
  clear hb hb2 h1
  go_enter Tryz.func79, Tryz.ntmps79
  go_wp2
  refine bodyPost_ret (v := .agg #[.bool false, .int .u8 t.kind, .string ⟨t.text.toArray⟩, .int .i64 t.at_, .slice none 0 0]) (by simp [results, Tryz.results79, go_sem]) rfl ⟨none, 0, rfl, ?_, ?_⟩
  · unfold TreeAt
    exact ⟨none, 0, rfl, Nat.le_refl _, fun h => absurd rfl h⟩
  · repeat (first | exact Below.refl _ _ | refine Below.alloc ?_ (by simp) _ | refine Below.setCell ?_ (by simp) _)
theorem set5 {w : World} {b : Nat} {e : TypeId} {x0 x1 x2 x3 x4 : Value} (y0 y1 y2 y3 y4 : Value) (h : w.heap[b]? = some (.cells #[x0, x1, x2, x3, x4] e (0, 0))) :
    ∃ W, W = (((((w.setCell ⟨b, 0, none⟩ y0).setCell ⟨b, 1, none⟩ y1).setCell ⟨b, 2, none⟩ y2).setCell ⟨b, 3, none⟩ y3).setCell ⟨b, 4, none⟩ y4) ∧ W.heap[b]? = some (.cells #[y0, y1, y2, y3, y4] e (0, 0)) ∧ (∀ k, k ≠ b → W.heap[k]? = w.heap[k]?) ∧ W.heap.size = w.heap.size ∧ (∀ B, B ≤ b → Below B w W) := by
  refine ⟨_, rfl, ?_, ?_, ?_, ?_⟩
  · exact heap_set_at (heap_set_at (heap_set_at (heap_set_at (heap_set_at h 0 y0) 1 y1) 2 y2) 3 y3) 4 y4
  · intro k hk
    have hk' : k ≠ b := hk
    rw [Below.heap_setCell _ _ _ _ hk', Below.heap_setCell _ _ _ _ hk', Below.heap_setCell _ _ _ _ hk', Below.heap_setCell _ _ _ _ hk', Below.heap_setCell _ _ _ _ hk']
  · simp [World.setCell]
  · intro B hB
    exact (((((Below.refl B w).setCell (p := ⟨b, 0, none⟩) hB _).setCell (p := ⟨b, 1, none⟩) hB _).setCell (p := ⟨b, 2, none⟩) hB _).setCell (p := ⟨b, 3, none⟩) hB _).setCell (p := ⟨b, 4, none⟩) hB _

theorem below_undrew {w w' : World} (h : Below w.drew.heap.size w.drew w') : Below w.heap.size w w' := ⟨h.os, h.tape, h.output, h.size, h.block⟩
theorem TreeD.eta (t : TreeD) : t = .mk t.isList t.kind t.text t.pos t.kids := by cases t; rfl

set_option maxHeartbeats 4000000 in
set_option maxRecDepth 100000 in
theorem treeOf_list (t0 tn : TokD) (ts : List TokD) (ks : List TreeD) (h0 : t0.kind = 1) (hts : TTs ts ks) (ih : ∀ a t, TT a t → a.length ≤ ts.length → TreeOf a t) :
    TreeOf (t0 :: (ts ++ [tn])) (.mk true t0.kind ⟨t0.text.toArray⟩ t0.at_ ks) := by
  intro g o cap w hb hg hlen hcap
  obtain ⟨i0, hi, hz0, hz1, hz2⟩ := info_parts info36
  obtain ⟨l, hl⟩ : ∃ l, l = t0 :: (ts ++ [tn]) := ⟨_, rfl⟩
  have hll : l.length = ts.length + 2 := by rw [hl]; simp
  have hdrop : ∀ a, 1 ≤ a → a ≤ ts.length + 1 → l.drop a = ts.drop (a - 1) ++ [tn] := by
    intro a h1 h2
    obtain ⟨b, rfl⟩ : ∃ b, a = b + 1 := ⟨a - 1, by omega⟩
    rw [hl, List.drop_succ_cons, Nat.add_sub_cancel, List.drop_append_of_le_length (by omega)]
  rw [← hl] at hb hlen hcap ⊢
  have hl0 : l[0]? = some t0 := by rw [hl]; rfl
  clear hl
  obtain ⟨Z, hZ⟩ : ∃ Z : Obj, Z = .cells #[.bool false, .int .u8 0, .string ⟨#[]⟩, .int .i64 0, .slice none 0 0] 36 := ⟨_, rfl⟩
  obtain ⟨Y, hY⟩ : ∃ Y : Obj, Y = .cells #[.bool true, .int .u8 t0.kind, .string ⟨t0.text.toArray⟩, .int .i64 t0.at_, .slice none 0 0] 36 := ⟨_, rfl⟩
  have hb1 := hb.below ((Below.refl _ w).alloc (Nat.le_refl _) Z) hg
  obtain ⟨c0, c1, c2⟩ := hb1 0 t0 hl0
  simp only [Nat.zero_mul, Nat.add_zero] at c0 c1 c2
  rw [hZ] at c0 c1 c2
  have e1 : (t0.kind != 1) = false := by rw [bne_eq_false_iff_eq]; exact h0
  have hbW : Below w.heap.size w ((w.alloc Z).alloc Y) := ((Below.refl _ w).alloc (Nat.le_refl _) Z).alloc (by simp) Y
  have hT2 : ((w.alloc Z).alloc Y).heap[w.heap.size]? = some Z := by rw [Lib.alloc_old _ _ _ (by simp)]; exact heap_alloc_new w Z
  have hT3 : ((w.alloc Z).alloc Y).heap[w.heap.size + 1]? = some Y := by have := heap_alloc_new (w.alloc Z) Y; simpa using this
  have hszW : ((w.alloc Z).alloc Y).heap.size = w.heap.size + 2 := by simp
  simp only [TreeD.isList, TreeD.kind, TreeD.text, TreeD.pos, TreeD.kids]
  have Hb := Lib.hid hb
  have Hdrop := Lib.hid hdrop
  have Hll := Lib.hid hll
  have Hts := Lib.hid hts
  have Ih := Lib.hid ih
  have HbW := Lib.hid hbW
  have HT2 := Lib.hid hT2
  have HT3 := Lib.hid hT3
  have HszW := Lib.hid hszW
  have hlen1 : 2 ≤ l.length := by omega
  have hlenI : (l.length : Int) ≤ 1048576 := by omega
  clear hb hdrop hll hts ih hb1 hl0 hbW hT2 hT3 hszW
  have H0 := Lib.hid h0
  clear h0
  go_enter Tryz.func79, Tryz.ntmps79
  go_wp2
  obtain ⟨W, hW⟩ : ∃ W, W = (w.alloc Z).alloc Y := ⟨_, rfl⟩
  have hW' := hW
  rw [hZ, hY] at hW'
  rw [← hW']
  rw [← hW] at HbW HT2 HT3 HszW
  have HZ := Lib.hid hZ
  have HY := Lib.hid hY
  clear hW hW' c0 c1 c2 hZ hY e1
  go_loopw [4, 5] (fun v4 _ wr => ∃ (a : Nat) (dn rest : List TreeD) (v : Value) (css : List (List Value)), v4 = .int .i64 a ∧ dn.length < a ∧ a ≤ ts.length + 1 ∧ TTs (ts.drop (a - 1)) rest ∧ ks = dn ++ rest ∧
      wr.heap[w.heap.size + 1]? = some (.cells #[.bool true, .int .u8 t0.kind, .string ⟨t0.text.toArray⟩, .int .i64 t0.at_, v] 36 (0, 0)) ∧ wr.heap[w.heap.size]? = some Z ∧
      wr.ownsRow (w.heap.size + 2) 36 5 v dn.length css.flatten ∧ css.length = dn.length ∧ (∀ cs ∈ css, cs.length = 5) ∧
      (∀ (i : Nat) t cs, dn[i]? = some t → css[i]? = some cs → TreeAt wr (fun k => w.heap.size + 2 ≤ k ∧ k < wr.heap.size ∧ v.ownBlock ≠ some k) t cs) ∧ Below w.heap.size w wr ∧ w.heap.size + 2 ≤ wr.heap.size)
    (fun v4 _ _ => l.length - (intOf v4).toNat)
  case atStart => exact ⟨1, [], ks, .slice none 0 0, [], rfl, by simp, by omega, Hts.out, rfl, by rw [HT3.out, HY.out], HT2.out, World.ownsRow_nil _ _ _ _, rfl, by simp, by simp, HbW.out, by have := HszW.out; omega⟩
  case round =>
    obtain ⟨a, dn, rest, v, css, rfl, had, ha2, htt, hks, h3, h2, hown, hcl, hc5, hkid, hbel, hsz⟩ := hrel
    obtain ⟨av, cv, rfl⟩ := ownsRow_len hown
    have ha1 : 1 ≤ a := by omega
    have c40 : wr.cell? ⟨w.heap.size + 1, 0, none⟩ = some (.bool true) := by rw [Lib.cell_of_heap h3]; rfl
    have c41 : wr.cell? ⟨w.heap.size + 1, 1, none⟩ = some (.int .u8 t0.kind) := by rw [Lib.cell_of_heap h3]; rfl
    have c42 : wr.cell? ⟨w.heap.size + 1, 2, none⟩ = some (.string ⟨t0.text.toArray⟩) := by rw [Lib.cell_of_heap h3]; rfl
    have c43 : wr.cell? ⟨w.heap.size + 1, 3, none⟩ = some (.int .i64 t0.at_) := by rw [Lib.cell_of_heap h3]; rfl
    have c44 : wr.cell? ⟨w.heap.size + 1, 4, none⟩ = some (.slice av dn.length cv) := by rw [Lib.cell_of_heap h3]; rfl
    cases rest with
    | nil =>
      have hae : a = ts.length + 1 := by
        have : ts.drop (a - 1) = [] := by
          generalize ts.drop (a - 1) = m at htt
          cases htt; rfl
        have := List.drop_eq_nil_iff.1 this
        omega
      have hge : ¬ (a : Int) < l.length - 1 := by have := Hll.out; omega
      have hlm : (0 : Int) ≤ l.length - 1 := by omega
      have hks' : ks = dn := by rw [hks]; simp
      have h2' := h2
      rw [HZ.out] at h2'
      have d0 : wr.cell? ⟨w.heap.size, 0, none⟩ = some (.bool false) := by rw [Lib.cell_of_heap h2']; rfl
      have d1 : wr.cell? ⟨w.heap.size, 1, none⟩ = some (.int .u8 0) := by rw [Lib.cell_of_heap h2']; rfl
      have d2 : wr.cell? ⟨w.heap.size, 2, none⟩ = some (.string ⟨#[]⟩) := by rw [Lib.cell_of_heap h2']; rfl
      have d3 : wr.cell? ⟨w.heap.size, 3, none⟩ = some (.int .i64 0) := by rw [Lib.cell_of_heap h2']; rfl
      have d4 : wr.cell? ⟨w.heap.size, 4, none⟩ = some (.slice none 0 0) := by rw [Lib.cell_of_heap h2']; rfl
      have f0 : wr.frozen? ⟨w.heap.size, 0, none⟩ = false := Lib.frozen_of_heap h2' 0
      have f1 : wr.frozen? ⟨w.heap.size, 1, none⟩ = false := Lib.frozen_of_heap h2' 1
      have f2 : wr.frozen? ⟨w.heap.size, 2, none⟩ = false := Lib.frozen_of_heap h2' 2
      have f3 : wr.frozen? ⟨w.heap.size, 3, none⟩ = false := Lib.frozen_of_heap h2' 3
      have f4 : wr.frozen? ⟨w.heap.size, 4, none⟩ = false := Lib.frozen_of_heap h2' 4
      have Hks := Lib.hid hks'
      have Hkid := Lib.hid hkid
      have Hown := Lib.hid hown
      have H2 := Lib.hid h2
      have H2' := Lib.hid h2'
      clear hks hks' hkid hown h2 h2' htt hae h3
      go_wp2
      obtain ⟨W5, hW5, k1, k2, k3, k4⟩ := set5 (.bool true) (.int .u8 t0.kind) (.string ⟨t0.text.toArray⟩) (.int .i64 t0.at_) (.slice av dn.length cv) H2'.out
      rw [← hW5]
      have q0 : W5.cell? ⟨w.heap.size, 0, none⟩ = some (.bool true) := by rw [Lib.cell_of_heap k1]; rfl
      have q1 : W5.cell? ⟨w.heap.size, 1, none⟩ = some (.int .u8 t0.kind) := by rw [Lib.cell_of_heap k1]; rfl
      have q2 : W5.cell? ⟨w.heap.size, 2, none⟩ = some (.string ⟨t0.text.toArray⟩) := by rw [Lib.cell_of_heap k1]; rfl
      have q3 : W5.cell? ⟨w.heap.size, 3, none⟩ = some (.int .i64 t0.at_) := by rw [Lib.cell_of_heap k1]; rfl
      have q4 : W5.cell? ⟨w.heap.size, 4, none⟩ = some (.slice av dn.length cv) := by rw [Lib.cell_of_heap k1]; rfl
      refine bodyPost_ret (v := .agg #[.bool true, .int .u8 t0.kind, .string ⟨t0.text.toArray⟩, .int .i64 t0.at_, .slice av dn.length cv]) (by simp [results, Tryz.results79, go_sem, q0, q1, q2, q3, q4]) rfl ⟨av, cv, by rw [Hks.out], ?_, hbel.trans (k4 _ (Nat.le_refl _))⟩
      rw [Hks.out]
      unfold TreeAt
      have hown := Hown.out
      rcases ownsRow_shape hown with ⟨hv, hn⟩ | ⟨gg, cap', cur, hv, hgg, hcur, hnc⟩
      · have hdn : dn = [] := List.eq_nil_of_length_eq_zero hn
        exact ⟨av, cv, rfl, by rw [hn]; omega, fun hne => absurd hdn hne⟩
      · cases hv
        refine ⟨_, _, rfl, hnc, fun _ => ⟨gg, 0, rfl, ?_, ?_⟩⟩
        · have := (Array.getElem?_eq_some_iff.1 hcur).1
          omega
        · refine KidsAt.of_row dn css 0 hcl (fun i t cs hi' hc' => ?_) hc5 (fun j u hj => ?_)
          · exact TreeAt.keep (fun k hk => ⟨by omega, by omega⟩) (fun k hk => k2 k (by omega)) t cs (Hkid.out i t cs hi' hc')
          · have hj2 := (List.getElem?_eq_some_iff.1 hj).1
            rw [Nat.zero_add, cell_heap (k2 gg (by omega)), hown.cellAt j (by rw [← hown.1]; exact hj2), hj]
    | cons t r =>
      obtain ⟨p, q, hm, hT, hTs⟩ : ∃ p q, ts.drop (a - 1) = p ++ q ∧ TT p t ∧ TTs q r := by
        generalize ts.drop (a - 1) = m at htt
        cases htt with
        | cons p q _ _ h1 h2 => exact ⟨p, q, rfl, h1, h2⟩
      obtain ⟨m, hpm⟩ : ∃ m, m = a + p.length := ⟨_, rfl⟩
      have hm1 : a < m := by have := hT.pos; omega
      have hlenm : m - 1 + q.length = ts.length := by
        have := congrArg List.length hm
        simp at this
        omega
      have hld : l.drop a = p ++ (q ++ [tn]) := by rw [Hdrop.out a ha1 (by omega), hm, List.append_assoc]
      have hll := Hll.out
      have hend : endF (l.drop a) 0 a = (m : Int) := by
        rw [hld, endF_tree hT 0 _ a (Int.le_refl _), if_pos rfl, ← hpm]
      have hbr := Hb.out.below hbel hg
      have hrend := rend_any g o cap l a wr hbr (by omega) hlen
      rw [hend] at hrend
      have htk : ToksAt wr.drew g (o + a * 3) p := by
        have h := (hbr.drop a).take p.length
        rw [hld, List.take_left' rfl] at h
        exact h
      have htree := Ih.out p t hT (by omega) g (o + a * 3) (cap - a) wr.drew htk (by have := hbel.size; exact Nat.lt_of_lt_of_le hg this) (by omega) (by omega)
      have hpl : p.length = m - a := by omega
      rw [hpl] at htree
      have Hrend := Lib.hid hrend
      have Htree := Lib.hid htree
      have Hown := Lib.hid hown
      have Hkid := Lib.hid hkid
      have Hc5 := Lib.hid hc5
      have Hcl := Lib.hid hcl
      have Hks := Lib.hid hks
      have H3 := Lib.hid h3
      have H2 := Lib.hid h2
      have Hts' := Lib.hid hTs
      have Hm := Lib.hid hm
      have Hpl := Lib.hid hpl
      have hlt : (a : Int) < l.length - 1 := by omega
      have hlm : (0 : Int) ≤ l.length - 1 := by omega
      have hamL : m ≤ l.length := by omega
      have hcapa : m ≤ cap := by omega
      have haI : (0 : Int) ≤ a := by omega
      have hmI : (0 : Int) ≤ m := by omega
      have hamI : (a : Int) ≤ m := by omega
      have hcapI : (m : Int) ≤ cap := by omega
      have hcapN : ¬ cap = a := by omega
      have hT3 : w.heap.size + 1 < wr.heap.size := by omega
      have hdl : dn.length + 1 ≤ 1048576 := by omega
      have hmt : m ≤ ts.length + 1 := by omega
      clear htt hT hTs hm hpm hpl hld hend hbr hrend htk htree hown hkid hc5 hcl hks h3 h2 hll hlenm
      go_wp2_with (go_at_call 77; refine Hrend.out.mono ?_; rintro e w' ⟨rfl, rfl⟩)
      obtain ⟨tl, tk, tx, tp, tks⟩ := t
      simp only [TreeD.isList, TreeD.kind, TreeD.text, TreeD.pos, TreeD.kids] at Htree
      have hownA : ∀ W, Below wr.heap.size wr W → ∀ O, (W.alloc O).ownsRow (w.heap.size + 2) 36 5 (.slice av dn.length cv) dn.length css.flatten := fun W hb O =>
        (ownsRow_same Hown.out (fun g hg => hb.block g (Hown.out.lt g hg).2)).alloc O
      have HownA := Lib.hid hownA
      clear hownA
      have hb3 : ∀ W, Below wr.heap.size wr W → W.heap[w.heap.size + 1]? = some (.cells #[.bool true, .int .u8 t0.kind, .string ⟨t0.text.toArray⟩, .int .i64 t0.at_, .slice av dn.length cv] 36 (0, 0)) := fun W hb => (hb.block _ hT3).trans H3.out
      have Hb3 := Lib.hid hb3
      clear hb3
      have hrow : ∀ k, (Value.slice av dn.length cv).ownBlock = some k → w.heap.size + 2 ≤ k := fun k hk => (Hown.out.lt k hk).1
      have Hrow := Lib.hid hrow
      clear hrow
      go_region_law (first | (go_simp; go_at_call 79; refine Htree.out.mono ?_; rintro e w2 ⟨ak, ck, rfl, hT, hb2⟩; have c4' : w2.cell? ⟨w.heap.size + 1, 4, none⟩ = some (.slice av dn.length cv) := (hb2.cell (p := ⟨w.heap.size + 1, 4, none⟩) hT3).trans c44; have hs2 : wr.heap.size ≤ w2.heap.size := hb2.size; have c4a : (w2.alloc (Obj.cells #[.bool tl, .int .u8 tk, .string tx, .int .i64 tp, .slice ak tks.length ck] 36)).cell? ⟨w.heap.size + 1, 4, none⟩ = some (.slice av dn.length cv) := (cell_heap (Lib.alloc_old w2 _ _ (by omega)) 4).trans c4'; have HT := Lib.hid hT; have Hb2 := Lib.hid (below_undrew hb2); clear hT hb2) | (refine step_append_own rfl (.tmp 28) (.tmp 34) 23 rfl (w.heap.size + 2) 36 i0 _ 5 64 Tryz.underlying23 hi hz0 hz1 hz2 rfl (by decide) (.slice av dn.length cv) dn.length css.flatten (by simp [Act.eval]) (HownA.out w2 Hb2.out _) ⟨w2.heap.size, 0, none⟩ 1 1 [.bool tl, .int .u8 tk, .string tx, .int .i64 tp, .slice ak tks.length ck] (by simp [Act.eval]) rfl (fun j u hj => new_cells w2 [.bool tl, .int .u8 tk, .string tx, .int .i64 tp, .slice ak tks.length ck] 36 j u hj) (by intro u hu; simp at hu; rcases hu with rfl | rfl | rfl | rfl | rfl <;> rfl) (by unfold maxLen; omega) (by omega) (by simp; omega) ?_; intro v' w3 hown3 hgrow hwhich; obtain ⟨g', cap', rfl⟩ := ownsRow_pos hown3; have hb3' : w3.heap[w.heap.size + 1]? = some (.cells #[.bool true, .int .u8 t0.kind, .string ⟨t0.text.toArray⟩, .int .i64 t0.at_, .slice av dn.length cv] 36 (0, 0)) := (hgrow.block _ (by simp; omega) (fun e => by have := Hrow.out _ e.symm; omega)).trans ((Lib.alloc_old w2 _ _ (by omega)).trans (Hb3.out w2 Hb2.out)); have c4'' : w3.cell? ⟨w.heap.size + 1, 4, none⟩ = some (.slice av dn.length cv) := by { rw [Lib.cell_of_heap hb3']; rfl }; have f4'' : w3.frozen? ⟨w.heap.size + 1, 4, none⟩ = false := Lib.frozen_of_heap hb3' 4; have Hb3' := Lib.hid hb3'; have Hown3 := Lib.hid hown3; have Hgrow := Lib.hid hgrow; have Hwhich := Lib.hid hwhich; clear hb3' hown3 hgrow hwhich))
      all_goals go_wp2
      all_goals
        have hb2 := Hb2.out
        have hgrow := Hgrow.out
        have hown := Hown.out
        have hown3 := Hown3.out
        have hwhich := Hwhich.out g' rfl
        have hgs := hgrow.size
        rw [World.size_alloc] at hgs
        have hg2 : w.heap.size + 2 ≤ g' := (hown3.lt g' rfl).1
        have hvo : ∀ k, (Value.slice av dn.length cv).ownBlock = some k → k < wr.heap.size := fun k hk => (hown.lt k hk).2
        have hk1 : ∀ k, k < wr.heap.size → k ≠ w.heap.size + 1 → (Value.slice av dn.length cv).ownBlock ≠ some k → (w3.setCell ⟨w.heap.size + 1, 4, none⟩ (.slice (some ⟨g', 0, none⟩) (dn.length + 1) cap')).heap[k]? = wr.heap[k]? := fun k h1 h2 h3 => by
          rw [Below.heap_setCell _ _ _ _ h2, hgrow.block k (by simp; omega) (fun e => h3 e.symm), Lib.alloc_old w2 _ k (by omega), hb2.block k h1]
        have hk2 : ∀ k, wr.heap.size ≤ k → k < w2.heap.size → (w3.setCell ⟨w.heap.size + 1, 4, none⟩ (.slice (some ⟨g', 0, none⟩) (dn.length + 1) cap')).heap[k]? = w2.heap[k]? := fun k h1 h2 => by
          rw [Below.heap_setCell _ _ _ _ (show k ≠ w.heap.size + 1 by omega), hgrow.block k (by simp; omega) (fun e => by have := hvo k e.symm; omega), Lib.alloc_old w2 _ k h2]
        have hpq : ts.drop (m - 1) = q := by
          have e : m - 1 = a - 1 + p.length := by have := Hpl.out; omega
          rw [e, ← List.drop_drop, Hm.out, List.drop_left' rfl]
        go_roundw
        case rel =>
          refine ⟨m, dn ++ [.mk tl tk tx tp tks], r, .slice (some ⟨g', 0, none⟩) (dn.length + 1) cap', css ++ [[.bool tl, .int .u8 tk, .string tx, .int .i64 tp, .slice ak tks.length ck]], rfl, by simp; omega, hmt, by rw [hpq]; exact Hts'.out, by rw [Hks.out]; simp, ?_, ?_, ?_, by simp [Hcl.out], ?_, ?_, ?_, ?_⟩
          · exact heap_set_at Hb3'.out 4 _
          · rw [hk1 _ (by omega) (by omega) (fun e => by have := Hrow.out _ e; omega)]; exact H2.out
          · have h := ownsRow_same hown3 (w' := w3.setCell ⟨w.heap.size + 1, 4, none⟩ (.slice (some ⟨g', 0, none⟩) (dn.length + 1) cap')) (fun k hk => Below.heap_setCell _ _ _ _ (by simp [Value.ownBlock] at hk; show k ≠ w.heap.size + 1; omega))
            simpa using h
          · intro cs hcs
            rcases List.mem_append.1 hcs with h | h
            · exact Hc5.out cs h
            · simp at h; rw [h]; rfl
          · intro i t' cs' hi' hc'
            have hkg : ∀ k, k < wr.heap.size → (Value.slice av dn.length cv).ownBlock ≠ some k → g' ≠ k := fun k h1 h2 e => by
              subst e
              rcases hwhich with h | h
              · exact h2 h
              · simp at h; omega
            rcases Nat.lt_or_ge i dn.length with hlti | hgei
            · rw [List.getElem?_append_left hlti] at hi'
              rw [List.getElem?_append_left (by rw [Hcl.out]; exact hlti)] at hc'
              refine TreeAt.keep (fun k hk => ?_) (fun k hk => hk1 k hk.2.1 (by omega) hk.2.2) t' cs' (Hkid.out i t' cs' hi' hc')
              have h1 := hkg k hk.2.1 hk.2.2
              exact ⟨hk.1, by simp [World.setCell]; omega, fun e => h1 (by simpa [Value.ownBlock] using e)⟩
            · have hie : i = dn.length := by
                have := (List.getElem?_eq_some_iff.1 hi').1
                simp at this; omega
              subst hie
              rw [List.getElem?_append_right (Nat.le_refl _), Nat.sub_self] at hi'
              rw [List.getElem?_append_right (by rw [Hcl.out]; exact Nat.le_refl _), Hcl.out, Nat.sub_self] at hc'
              simp at hi' hc'
              subst hi' hc'
              refine TreeAt.keep (fun k hk => ?_) (fun k hk => hk2 k hk.1 hk.2) _ _ HT.out
              have hk1' : wr.heap.size ≤ k := hk.1
              have hk2' : k < w2.heap.size := hk.2
              refine ⟨by omega, by simp [World.setCell]; omega, fun e => ?_⟩
              simp [Value.ownBlock] at e
              rcases hwhich with h | h
              · have := hvo _ h; omega
              · simp at h; omega
          · exact ((((hbel.trans (hb2.mono hbel.size)).alloc (by have := hbel.size; omega) _).grown hgrow (by have := hbel.size; simp; omega) (fun k hk => by have := Hrow.out k hk; omega)).setCell (p := ⟨w.heap.size + 1, 4, none⟩) (by simp) _)
          · simp [World.setCell]; omega
        case measure => simp [intOf]; omega
end Go.Proofs.YtjdgfdpbiidldaaGreatDoor

namespace Go.Proofs.YtjdgfdpbiidldaaGreatDoor
open Go.RowKit

theorem cells5 {w : World} {b : Nat} {e : TypeId} {x0 x1 x2 x3 x4 : Value} (h : w.heap[b]? = some (.cells #[x0, x1, x2, x3, x4] e (0, 0))) :
    (w.cell? ⟨b, 0, none⟩ = some x0 ∧ w.cell? ⟨b, 1, none⟩ = some x1 ∧ w.cell? ⟨b, 2, none⟩ = some x2 ∧ w.cell? ⟨b, 3, none⟩ = some x3 ∧ w.cell? ⟨b, 4, none⟩ = some x4) ∧
    (w.frozen? ⟨b, 0, none⟩ = false ∧ w.frozen? ⟨b, 1, none⟩ = false ∧ w.frozen? ⟨b, 2, none⟩ = false ∧ w.frozen? ⟨b, 3, none⟩ = false ∧ w.frozen? ⟨b, 4, none⟩ = false) := by
  refine ⟨⟨?_, ?_, ?_, ?_, ?_⟩, Lib.frozen_of_heap h 0, Lib.frozen_of_heap h 1, Lib.frozen_of_heap h 2, Lib.frozen_of_heap h 3, Lib.frozen_of_heap h 4⟩ <;> rw [Lib.cell_of_heap h] <;> rfl

theorem treeOf_any : ∀ (n : Nat) (a : List TokD) (t : TreeD), a.length ≤ n → TT a t → TreeOf a t
  | 0, a, t, hn, h => by have := h.pos; omega
  | n + 1, a, t, hn, h => by
    cases h with
    | leaf t h1 h2 => exact treeOf_leaf t h1
    | list t0 tn ts ks h1 h2 h3 =>
      refine treeOf_list t0 tn ts ks h1 h3 (fun b u hb hl => treeOf_any n b u ?_ hb)
      simp at hn
      omega

set_option maxHeartbeats 4000000 in
set_option maxRecDepth 100000 in
theorem rnext_any (g o cap : Nat) (l a rest : List TokD) (t : TreeD) (w : World) (hl : l = a ++ rest) (hT : TT a t) (hd : depD t ≤ 200) (hb : ToksAt w g o l) (hg : g < w.heap.size) (hlen : l.length ≤ 1048576) (hcap : l.length ≤ cap) :
    Calls Tryz.prog 26 #[.slice (some ⟨g, o, none⟩) l.length cap, .int .i64 0] w fun e w' => ∃ ao c, e = .returned (.tuple #[.agg #[.bool t.isList, .int .u8 t.kind, .string t.text, .int .i64 t.pos, .slice ao t.kids.length c], .int .i64 a.length, .int .i64 0]) ∧
      TreeAt w' (fun k => w.heap.size ≤ k ∧ k < w'.heap.size) t [.bool t.isList, .int .u8 t.kind, .string t.text, .int .i64 t.pos, .slice ao t.kids.length c] ∧ Below w.heap.size w w' := by
  obtain ⟨Z, hZ⟩ : ∃ Z : Obj, Z = .cells #[.bool false, .int .u8 0, .string ⟨#[]⟩, .int .i64 0, .slice none 0 0] 36 := ⟨_, rfl⟩
  have hbZ : Below w.heap.size w (w.alloc Z) := (Below.refl _ w).alloc (Nat.le_refl _) Z
  have hb1 := hb.below hbZ hg
  have hg1 : g < (w.alloc Z).heap.size := by simp; omega
  obtain ⟨x, r, hax, hx2⟩ := hT.head
  have hl0 : l[0]? = some x := by rw [hl, hax]; rfl
  obtain ⟨c0, _⟩ := hb1 0 x hl0
  simp only [Nat.zero_mul, Nat.add_zero] at c0
  have e2 : (x.kind == 2) = false := by rw [beq_eq_false_iff_ne]; exact hx2
  have hpos := hT.pos
  have hal : a.length ≤ l.length := by rw [hl]; simp
  obtain ⟨m, hm⟩ : ∃ m, m = a.length := ⟨_, rfl⟩
  have hend : endF (l.drop 0) 0 0 = (m : Int) := by
    rw [List.drop_zero, hl, endF_tree hT 0 rest 0 (Int.le_refl _), if_pos rfl, ← hm]; simp
  have hrend : Calls Tryz.prog 77 #[.slice (some ⟨g, o, none⟩) l.length cap, .int .i64 0] (w.alloc Z) fun e w' => e = .returned (.int .i64 (endF (l.drop 0) 0 0)) ∧ (w.alloc Z) = w' := rend_any g o cap l 0 (w.alloc Z) hb1 (by omega) hlen
  rw [hend] at hrend
  have hta : ToksAt (w.alloc Z) g o a := by
    have h := hb1.take a.length
    rw [hl, List.take_left' rfl] at h
    exact h
  have hmost := rmost_any g o cap a (w.alloc Z) hta (by omega)
  have hmo : mostF a 0 0 = (depD t : Int) := by
    have h := mostF_tree hT 0 0 []
    rw [List.append_nil] at h
    rw [h]; simp only [mostF]; omega
  rw [hmo, ← hm] at hmost
  have htree := treeOf_any a.length a t (Nat.le_refl _) hT g o cap (w.alloc Z) hta hg1 (by omega) (by omega)
  rw [← hm] at htree ⊢
  have hle : (m : Int) ≤ l.length := by omega
  have hm0 : (0 : Int) < m := by omega
  have hmcap : (m : Int) ≤ cap := by omega
  have hmc : m ≤ cap := by omega
  have hml : m ≤ l.length := by omega
  have hlz : ((0 : Int) == (l.length : Int)) = false := by rw [beq_eq_false_iff_ne]; omega
  have hlp : (0 : Int) < l.length := by omega
  have hdi : (depD t : Int) ≤ 200 := by omega
  have hlI : (l.length : Int) ≤ 1048576 := by omega
  have Hrend := Lib.hid hrend
  have Hmost := Lib.hid hmost
  have Htree := Lib.hid htree
  have HbZ := Lib.hid hbZ
  have hZ2 : (w.alloc Z).heap[w.heap.size]? = some Z := heap_alloc_new w Z
  have HZ2 := Lib.hid hZ2
  clear hl hT hd hb hb1 hax hx2 hl0 hm hend hrend hta hmost hmo htree hbZ hZ2 hal hpos hg1
  obtain ⟨tl, tk, tx, tp, tks⟩ := t
  simp only [TreeD.isList, TreeD.kind, TreeD.text, TreeD.pos, TreeD.kids] at Htree ⊢
  subst hZ
  go_enter Tryz.func26, Tryz.ntmps26
  go_wp2_with (first | (go_at_call 77; refine Hrend.out.mono ?_; rintro e w' ⟨rfl, rfl⟩) | (go_at_call 78; refine Hmost.out.mono ?_; rintro e w' ⟨rfl, rfl⟩) | (go_at_call 79; refine Htree.out.mono ?_; rintro e w2 ⟨ak, ck, rfl, hT, hb2⟩; have z2 := (hb2.block w.heap.size (by simp)).trans HZ2.out; obtain ⟨⟨d0, d1, d2, d3, d4⟩, f0, f1, f2, f3, f4⟩ := cells5 z2; have Z2 := Lib.hid z2; have HT := Lib.hid hT; have Hb2 := Lib.hid hb2; clear z2 hT hb2))
  obtain ⟨W5, hW5, k1, k2, k3, k4⟩ := set5 (.bool tl) (.int .u8 tk) (.string tx) (.int .i64 tp) (.slice ak tks.length ck) Z2.out
  rw [← hW5]
  have hb2 := Hb2.out
  have hsz := hb2.size
  simp only [World.size_alloc] at hsz
  obtain ⟨⟨q0, q1, q2, q3, q4⟩, _⟩ := cells5 k1
  refine bodyPost_ret (v := .tuple #[.agg #[.bool tl, .int .u8 tk, .string tx, .int .i64 tp, .slice ak tks.length ck], .int .i64 m, .int .i64 0]) (by simp [results, Tryz.results26, go_sem, q0, q1, q2, q3, q4]) rfl ⟨ak, ck, rfl, ?_, (HbZ.out.trans (hb2.mono (by simp))).trans (k4 _ (Nat.le_refl _))⟩
  refine TreeAt.keep (fun k hk => ?_) (fun k hk => k2 k ?_) _ _ HT.out
  · have h1 := hk.1; have h2 := hk.2; simp only [World.size_alloc] at h1; omega
  · have h1 := hk.1; simp only [World.size_alloc] at h1; omega
end Go.Proofs.YtjdgfdpbiidldaaGreatDoor

namespace Go.Proofs.YtjdgfdpbiidldaaGreatDoor
open Go.RowKit

set_option maxHeartbeats 8000000 in
set_option maxRecDepth 100000 in
theorem put_new (B b : Nat) (S : StoreD) (op fn num so : Int) (w : World) (h : IsStore w B b S) (hBw : B ≤ w.heap.size) (hf : JM.findAt (⟨op, fn, num, so, 0⟩ : KeyK) (S.terms.map fun p => (p.1, Value.int .i64 p.2)) 0 = none) (hroom : S.nodes.length < 20000) :
    Calls Tryz.prog 74 #[.pointer (some ⟨b, 0, none⟩), .agg #[.int .u8 op, .int .i64 fn, .int .i64 num, .int .i64 so, .slice none 0 0]] w fun e w' => e = .returned (.tuple #[.int .i64 S.nodes.length, .int .i64 0]) ∧ IsStore w' B b (S.add0 ⟨op, fn, num, so, []⟩) ∧ Below B w w' ∧ Keeps [168, 172] true w w' := by
  obtain ⟨⟨lv, mt, ml, rows, hb, hall, hrow, hargs, ht, hl, hne, hmtB, hmlB⟩, hB, hfew⟩ := h
  obtain ⟨i0, hi, hz0, hz1, hz2⟩ := info_parts info172
  have hblt : b < w.heap.size := (Array.getElem?_eq_some_iff.1 hb).1
  obtain ⟨W, hW⟩ : ∃ W, W = (w.alloc (.cells #[.int .u8 op, .int .i64 fn, .int .i64 num, .int .i64 so, .slice none 0 0] 172)).alloc (.cells #[.int .u8 op, .int .i64 fn, .int .i64 num, .int .i64 so, .int .i64 0] 274) := ⟨_, rfl⟩
  have hbel : Below w.heap.size w W := by rw [hW]; exact ((Below.refl _ w).alloc (Nat.le_refl _) _).alloc (by simp) _
  have hb1 := (hbel.block b hblt).trans hb
  have c1 : W.cell? ⟨b, 1, none⟩ = some (.map (some mt)) := by rw [Lib.cell_of_heap hb1]; rfl
  have hlk : ∀ nq, ∃ z, (Instr.lookup 165 (.map (some mt)) (.agg #[.int .u8 op, .int .i64 fn, .int .i64 num, .int .i64 so, .int .i64 0]) true).run Tryz.prog (W.drewN nq) = .ok (.tuple #[z, .bool false]) (W.drewN nq) := by
    intro nq
    have h1 : JM.IsM KeyK.v (W.drewN nq) mt (S.terms.map fun p => (p.1, Value.int .i64 p.2)) := ht.same (hbel.block mt ht.lt)
    have h2 := JM.run_lookup (P := Tryz.prog) kind274 Tryz.underlying165 h1 (z := .int .i64 0) (Tryz.zeroValue75 _) ⟨op, fn, num, so, 0⟩ true
    have h3 : JM.get (S.terms.map fun p => (p.1, Value.int .i64 p.2)) (⟨op, fn, num, so, 0⟩ : KeyK) = none := by unfold JM.get; rw [hf]; rfl
    rw [h3] at h2
    exact ⟨_, h2⟩
  have hlk2 : ∀ nq, (Instr.lookup 165 (.map (some mt)) (.agg #[.int .u8 op, .int .i64 fn, .int .i64 num, .int .i64 so, .int .i64 0]) true).run Tryz.prog (W.drewN nq) = .ok (.tuple #[.int .i64 0, .bool false]) (W.drewN nq) := by
    intro nq
    have h1 : JM.IsM KeyK.v (W.drewN nq) mt (S.terms.map fun p => (p.1, Value.int .i64 p.2)) := ht.same (hbel.block mt ht.lt)
    have h2 := JM.run_lookup (P := Tryz.prog) kind274 Tryz.underlying165 h1 (z := .int .i64 0) (Tryz.zeroValue75 _) ⟨op, fn, num, so, 0⟩ true
    have h3 : JM.get (S.terms.map fun p => (p.1, Value.int .i64 p.2)) (⟨op, fn, num, so, 0⟩ : KeyK) = none := by unfold JM.get; rw [hf]; rfl
    rw [h3] at h2
    exact h2
  obtain ⟨ao, cap, rfl⟩ := ownsRow_len hrow
  have hlen : rows.length = S.nodes.length := by rw [← hall]; simp
  have c0 : W.cell? ⟨b, 0, none⟩ = some (.slice ao rows.length cap) := by rw [Lib.cell_of_heap hb1]; rfl
  rw [hW] at c0 c1 hlk2
  have hlt2 : ¬ (20000 : Int) ≤ (rows.length : Int) := by omega
  have Hbel := Lib.hid hbel
  have HW := Lib.hid hW
  have Hb := Lib.hid hb
  have Hall := Lib.hid hall
  have Hrow := Lib.hid hrow
  have Hargs := Lib.hid hargs
  have Ht := Lib.hid ht
  have Hl := Lib.hid hl
  have Hb1 := Lib.hid hb1
  have Hf := Lib.hid hf
  have Hlen := Lib.hid hlen
  clear hb hall hrow hargs ht hl hfew hb1 hf hbel hW hlk hlen
  go_enter Tryz.func74, Tryz.ntmps74
  go_wp2_with fail
  refine wp_loop_rounds 1 ?_
  rw [rounds_succ]
  go_wp2_with fail
  go_quiet (fail)
  clear hlk2
  go_wp2_with fail
  refine (cloneTerms_nil _).mono ?_
  rintro e w' ⟨rfl, rfl⟩
  go_wp2_with fail
  obtain ⟨W1, hW1⟩ : ∃ W1 : World, W1 = (((w.alloc (.cells #[.int .u8 op, .int .i64 fn, .int .i64 num, .int .i64 so, .slice none 0 0] 172)).alloc (.cells #[.int .u8 op, .int .i64 fn, .int .i64 num, .int .i64 so, .int .i64 0] 274)).drewN nq).setCell ⟨w.heap.size, 4, none⟩ (.slice none 0 0) := ⟨_, rfl⟩
  have hbelW : Below w.heap.size w W1 := by rw [hW1, ← HW.out]; exact (show Below w.heap.size w (W.drewN nq) from ⟨Hbel.out.os, Hbel.out.tape, Hbel.out.output, Hbel.out.size, Hbel.out.block⟩).setCell (p := ⟨w.heap.size, 4, none⟩) (Nat.le_refl _) _
  have hszW : W1.heap.size = w.heap.size + 2 := by rw [hW1]; simp [World.setCell]
  have hbox0 : W1.heap[w.heap.size]? = some (.cells #[.int .u8 op, .int .i64 fn, .int .i64 num, .int .i64 so, .slice none 0 0] 172 (0, 0)) := by
    rw [hW1]
    refine heap_set_at (cs := #[.int .u8 op, .int .i64 fn, .int .i64 num, .int .i64 so, .slice none 0 0]) ?_ 4 (.slice none 0 0)
    show ((w.alloc _).alloc _).heap[w.heap.size]? = _
    rw [Lib.alloc_old _ _ _ (by simp)]
    exact heap_alloc_new w _
  have hbox1 : W1.heap[w.heap.size + 1]? = some (.cells #[.int .u8 op, .int .i64 fn, .int .i64 num, .int .i64 so, .int .i64 0] 274 (0, 0)) := by
    rw [hW1, Below.heap_setCell _ _ _ _ (show w.heap.size + 1 ≠ w.heap.size by omega)]
    have h := heap_alloc_new (w.alloc (.cells #[.int .u8 op, .int .i64 fn, .int .i64 num, .int .i64 so, .slice none 0 0] 172)) (.cells #[.int .u8 op, .int .i64 fn, .int .i64 num, .int .i64 so, .int .i64 0] 274)
    simpa using h
  rw [← hW1]
  clear hW1 c0 c1 Hbel HW Hb1
  have hb1 : W1.heap[b]? = some (.cells #[.slice ao rows.length cap, .map (some mt), .map (some ml)] 168 (0, 0)) := (hbelW.block b hblt).trans Hb.out
  have c0 : W1.cell? ⟨b, 0, none⟩ = some (.slice ao rows.length cap) := by rw [Lib.cell_of_heap hb1]; rfl
  have f0 : W1.frozen? ⟨b, 0, none⟩ = false := Lib.frozen_of_heap hb1 0
  obtain ⟨⟨x0, x1, x2, x3, x4⟩, _⟩ := cells5 hbox0
  have hown : W1.ownsRow B 172 5 (.slice ao rows.length cap) rows.length (rows.flatMap nodeCells) := ownsRow_same Hrow.out (fun g hg => hbelW.block g (Hrow.out.lt g hg).2)
  have hownA : (W1.alloc (.cells #[.int .u8 op, .int .i64 fn, .int .i64 num, .int .i64 so, .slice none 0 0] 172)).drew.ownsRow B 172 5 (.slice ao rows.length cap) rows.length (rows.flatMap nodeCells) := hown.alloc _
  have HownA := Lib.hid hownA; clear hownA
  have hcellsA : ∀ j u, (nodeCells (⟨op, fn, num, so, []⟩, .slice none 0 0))[j]? = some u → (W1.alloc (.cells #[.int .u8 op, .int .i64 fn, .int .i64 num, .int .i64 so, .slice none 0 0] 172)).drew.cell? ((⟨W1.heap.size, 0, none⟩ : Addr).add j) = some u := fun j u hj => new_cells W1 (nodeCells (⟨op, fn, num, so, []⟩, .slice none 0 0)) 172 j u hj
  have HcellsA := Lib.hid hcellsA; clear hcellsA
  have hone : ∀ u ∈ nodeCells (⟨op, fn, num, so, []⟩, .slice none 0 0), u.oneCell' = true := by intro u hu; simp [nodeCells] at hu; rcases hu with rfl | rfl | rfl | rfl | rfl <;> rfl
  have Hone := Lib.hid hone; clear hone
  have hbW : b < W1.heap.size := by omega
  have hB1 : B ≤ (W1.alloc (.cells #[.int .u8 op, .int .i64 fn, .int .i64 num, .int .i64 so, .slice none 0 0] 172)).drew.heap.size := by simp; omega
  have HB1 := Lib.hid hB1; clear hB1
  have HbelW := Lib.hid hbelW
  have Hbox0 := Lib.hid hbox0
  have Hbox1 := Lib.hid hbox1
  have Hb1 := Lib.hid hb1
  have Hown := Lib.hid hown
  have hlenr : rows.length < 20000 := by have := Hlen.out; omega
  have HszW := Lib.hid hszW
  have hBW : B ≤ W1.heap.size := by omega
  clear hbelW hbox0 hbox1 hb1 hown hszW
  go_cut [] (fun wx => ∃ g' cap', wx.heap[b]? = some (.cells #[.slice (some ⟨g', 0, none⟩) (rows.length + 1) cap', .map (some mt), .map (some ml)] 168 (0, 0)) ∧ wx.ownsRow B 172 5 (.slice (some ⟨g', 0, none⟩) (rows.length + 1) cap') (rows.length + 1) (rows.flatMap nodeCells ++ nodeCells (⟨op, fn, num, so, []⟩, .slice none 0 0)) ∧
      Upd (fun k => k = b ∨ (Value.slice ao rows.length cap).ownBlock = some k) W1 wx ∧ ((Value.slice ao rows.length cap).ownBlock = some g' ∨ W1.heap.size ≤ g'))
  case first =>
    go_region_law (refine step_append_own rfl (.tmp 86) (.tmp 88) 116 rfl B 172 i0 _ 5 56 Tryz.underlying116 hi hz0 hz1 hz2 rfl (by decide) (.slice ao rows.length cap) rows.length (rows.flatMap nodeCells) (by simp [Act.eval]) HownA.out ⟨W1.heap.size, 0, none⟩ 1 1 (nodeCells (⟨op, fn, num, so, []⟩, .slice none 0 0)) (by simp [Act.eval]) rfl HcellsA.out Hone.out (by unfold maxLen; omega) (by omega) HB1.out ?_; intro v' w' hown' hgrow hwhich; obtain ⟨g', cap', rfl⟩ := ownsRow_pos hown'; have hb2 : w'.heap[b]? = some (.cells #[.slice ao rows.length cap, .map (some mt), .map (some ml)] 168 (0, 0)) := (hgrow.block b (by simp; omega) (fun e => by obtain ⟨c, hc⟩ := ownsRow_kind Hown.out b _ e.symm Hb1.out; cases hc)).trans ((Lib.alloc_old W1 _ b hbW).trans Hb1.out); have hc2 : w'.cell? ⟨b, 0, none⟩ = some (.slice ao rows.length cap) := by { rw [Lib.cell_of_heap hb2]; rfl }; have hf2 : w'.frozen? ⟨b, 0, none⟩ = false := Lib.frozen_of_heap hb2 0; have Hb2 := Lib.hid hb2; have Hown' := Lib.hid hown'; have Hgrow := Lib.hid hgrow; clear hb2 hown' hgrow)
    all_goals (go_wp2_with fail; go_meet)
    all_goals
      have hne : g' ≠ b := by
        intro e
        obtain ⟨c, hc⟩ := ownsRow_kind Hown'.out g' _ rfl (e ▸ Hb2.out)
        cases hc
      refine ⟨g', cap', heap_set_at Hb2.out 0 _, ownsRow_same Hown'.out (fun g hg => Below.heap_setCell _ _ _ _ (by simp [Value.ownBlock] at hg; subst hg; exact hne)), (((Upd.refl (fun k => k = b ∨ (Value.slice ao rows.length cap).ownBlock = some k) W1).alloc _).drew.grown Hgrow.out (fun k hk _ => Or.inr hk)).setCell (p := ⟨b, 0, none⟩) (fun _ => Or.inl rfl) _, ?_⟩
      rcases hwhich g' rfl with h | h
      · exact .inl h
      · exact .inr (by simp at h; omega)
  case rest =>
    obtain ⟨g', cap', hb2, hown2, hupd2, hw2⟩ := hcut
    have hrowlt : ∀ k, (Value.slice ao rows.length cap).ownBlock = some k → k < w.heap.size := fun k hk => (Hrow.out.lt k hk).2
    have hszW := HszW.out
    have hbx : wc.heap[w.heap.size + 1]? = some (.cells #[.int .u8 op, .int .i64 fn, .int .i64 num, .int .i64 so, .int .i64 0] 274 (0, 0)) := by
      rw [hupd2.block _ (by omega) (by rintro (e | e); · omega
                                       · have := hrowlt _ e; omega)]
      exact Hbox1.out
    have d0 : wc.cell? ⟨b, 0, none⟩ = some (.slice (some ⟨g', 0, none⟩) (rows.length + 1) cap') := by rw [Lib.cell_of_heap hb2]; rfl
    have d1 : wc.cell? ⟨b, 1, none⟩ = some (.map (some mt)) := by rw [Lib.cell_of_heap hb2]; rfl
    obtain ⟨⟨y0, y1, y2, y3, y4⟩, _⟩ := cells5 hbx
    have hmapne : ∀ (m : Nat) es clock, w.heap[m]? = some (.map es clock) → (m ≠ b ∧ ∀ k, (Value.slice ao rows.length cap).ownBlock = some k → m ≠ k) := by
      intro m es clock hm
      refine ⟨fun e => ?_, fun k hk e => ?_⟩
      · subst e; rw [Hb.out] at hm; cases hm
      · subst e
        obtain ⟨c, hc⟩ := ownsRow_kind Hrow.out m _ hk hm
        cases hc
    have hmt : mt ≠ b ∧ ∀ k, (Value.slice ao rows.length cap).ownBlock = some k → mt ≠ k := by
      obtain ⟨es, clock, hm, _⟩ := Ht.out
      exact hmapne mt es clock hm
    have hml : ml ≠ b ∧ ∀ k, (Value.slice ao rows.length cap).ownBlock = some k → ml ≠ k := by
      obtain ⟨es, clock, hm, _⟩ := Hl.out
      exact hmapne ml es clock hm
    have hsame : ∀ m, m < w.heap.size → m ≠ b → (∀ k, (Value.slice ao rows.length cap).ownBlock = some k → m ≠ k) → wc.heap[m]? = w.heap[m]? := fun m hm h1 h2 => by
      rw [hupd2.block m (by omega) (by rintro (e | e); · exact h1 e
                                       · exact h2 _ e rfl), HbelW.out.block m hm]
    have hS2 : JM.IsM KeyK.v wc.drew mt (S.terms.map fun p => (p.1, Value.int .i64 p.2)) := Ht.out.same (hsame mt Ht.out.lt hmt.1 hmt.2)
    obtain ⟨w3, hup, hS3, hg3⟩ := JM.run_update (P := Tryz.prog) kind274 Tryz.underlying165 hS2 ⟨op, fn, num, so, 0⟩ (.int .i64 rows.length)
    have hup' : (Instr.mapUpdate 165 (.map (some mt)) (.agg #[.int .u8 op, .int .i64 fn, .int .i64 num, .int .i64 so, .int .i64 0]) (.int .i64 rows.length)).run Tryz.prog wc.drew = .ok () w3 := hup
    have HS3 := Lib.hid hS3
    have Hg3 := Lib.hid hg3
    have Hb2 := Lib.hid hb2
    have Hmt := Lib.hid hmt
    have Hml := Lib.hid hml
    have Hsame := Lib.hid hsame
    have Hrl := Lib.hid hrowlt
    clear hS3 hg3 hS2 hb2 hmt hml hmapne hsame hrowlt hup hbx hszW
    go_wp2
    go_region
    go_wp2
    go_ret2
    have hlen := Hlen.out
    have hg3 := Hg3.out
    have hU : Upd (fun k => k = b ∨ k = mt ∨ (Value.slice ao rows.length cap).ownBlock = some k) w w3 := by
      refine (((Upd.of_all HbelW.out _).then hupd2 ?_).drew).grown hg3 ?_
      · rintro i hi (h | h)
        · exact .inl h
        · exact .inr (.inr h)
      · intro k hk _
        exact .inr (.inl (Option.some.inj hk).symm)
    have hKp : Keeps [168, 172] true w w3 := hU.keeps (by
      rintro k x (rfl | rfl | h) hx
      · rw [Hb.out] at hx; cases hx; simp [Touches]
      · obtain ⟨es, clock, hmm, _⟩ := Ht.out
        rw [hmm] at hx; cases hx; simp [Touches]
      · obtain ⟨c, rfl⟩ := ownsRow_kind Hrow.out k x h hx
        simp [Touches])
    have hb3 : w3.heap[b]? = some (.cells #[.slice (some ⟨g', 0, none⟩) (rows.length + 1) cap', .map (some mt), .map (some ml)] 168 (0, 0)) :=
      (hg3.block b (Array.getElem?_eq_some_iff.1 Hb2.out).1 (by simpa using fun e => Hmt.out.1 e.symm)).trans Hb2.out
    refine ⟨by rw [hlen]; rfl, ⟨⟨.slice (some ⟨g', 0, none⟩) (rows.length + 1) cap', mt, ml, rows ++ [(⟨op, fn, num, so, []⟩, .slice none 0 0)], hb3, ?_, ?_, ?_, ?_, ?_, hne, hmtB, hmlB⟩, hB, ?_⟩, ?_, hKp⟩
    · simp [StoreD.add0, Hall.out]
    · have h1 : (rows ++ [((⟨op, fn, num, so, []⟩ : NodeD), Value.slice none 0 0)]).length = rows.length + 1 := by simp
      have h2 : (rows ++ [((⟨op, fn, num, so, []⟩ : NodeD), Value.slice none 0 0)]).flatMap nodeCells = rows.flatMap nodeCells ++ nodeCells (⟨op, fn, num, so, []⟩, .slice none 0 0) := by simp
      rw [h1, h2]
      refine ownsRow_same hown2 (fun g hg => ?_)
      have hgl := (hown2.lt g hg).2
      refine hg3.block g hgl ?_
      intro e
      have e2 : g = mt := Option.some.inj e
      simp [Value.ownBlock] at hg
      subst hg
      rcases hw2 with h | h
      · exact Hmt.out.2 _ h e2.symm
      · have := Ht.out.lt; have := HszW.out; omega
    · intro p hp
      rcases List.mem_append.1 hp with hp | hp
      · exact ⟨(Hargs.out p hp).1.keeps hKp (by decide), (Hargs.out p hp).2⟩
      · simp at hp; subst hp
        exact ⟨intsAt_nil _ _ _ _, fun _ => rfl⟩
    · have h3 := HS3.out
      rw [JM.put, Hf.out] at h3
      simpa [StoreD.add0, key0, hlen] using h3
    · refine Hl.out.same ?_
      rw [hg3.block ml (by have := hupd2.size; have := Hl.out.lt; have := HszW.out; show ml < wc.heap.size; omega) (by simpa using fun e => hne e.symm)]
      exact Hsame.out ml Hl.out.lt Hml.out.1 Hml.out.2
    · simp [StoreD.add0]; omega
    · refine hU.below hBw (fun k hk hS => ?_)
      rcases hS with e | e | e
      · omega
      · omega
      · have := (Hrow.out.lt k e).1; omega
end Go.Proofs.YtjdgfdpbiidldaaGreatDoor

namespace Go.Proofs.YtjdgfdpbiidldaaGreatDoor
open Go.RowKit

theorem keepsOf {w w' : World} (h : Below w.heap.size w w') (ts : List TypeId) (m : Bool) : Keeps ts m w w' := fun k _ hk _ => (h.block k (Array.getElem?_eq_some_iff.1 hk).1).trans hk

theorem IsStore.cells {w : World} {B b : Nat} {S : StoreD} (h : IsStore w B b S) : ∃ ao cap mt ml, w.cell? ⟨b, 0, none⟩ = some (.slice ao S.nodes.length cap) ∧ w.cell? ⟨b, 1, none⟩ = some (.map (some mt)) ∧ w.cell? ⟨b, 2, none⟩ = some (.map (some ml)) := by
  obtain ⟨⟨lv, mt, ml, rows, hb, hall, hrow, _⟩, _⟩ := h
  obtain ⟨ao, cap, rfl⟩ := ownsRow_len hrow
  have hlen : rows.length = S.nodes.length := by rw [← hall]; simp
  rw [hlen] at hb
  exact ⟨ao, cap, mt, ml, by rw [Lib.cell_of_heap hb]; rfl, by rw [Lib.cell_of_heap hb]; rfl, by rw [Lib.cell_of_heap hb]; rfl⟩

set_option maxHeartbeats 1000000 in
theorem storeNone_any (B b : Nat) (S : StoreD) (w : World) (h : IsStore w B b S) : Calls Tryz.prog 84 #[.pointer (some ⟨b, 0, none⟩)] w fun e w' => e = .returned (.bool false) ∧ w = w' := by
  obtain ⟨ao, cap, mt, ml, c0, c1, c2⟩ := h.cells
  have hmn := run_eql_map_nil (P := Tryz.prog) w 165 274 75 (some mt) Tryz.underlying165
  clear h
  go_enter Tryz.func84, Tryz.ntmps84
  go_wp2
  go_ret
  exact ⟨rfl, rfl⟩

def storeEmpty : StoreD := ⟨[], [], []⟩
def storeNew : StoreD := ((storeEmpty.add0 ⟨1, 0, 0, 0, []⟩).add0 ⟨2, 0, 0, 0, []⟩).add0 ⟨3, 0, 0, 1, []⟩

theorem isStore_empty (w : World) : IsStore (((w.alloc (.map #[] 0)).alloc (.map #[] 0)).alloc (.cells #[.slice none 0 0, .map (some w.heap.size), .map (some (w.heap.size + 1))] 168)) w.heap.size (w.heap.size + 2) storeEmpty := by
  refine ⟨⟨.slice none 0 0, w.heap.size, w.heap.size + 1, [], ?_, rfl, World.ownsRow_nil _ _ _ _, by simp, ?_, ?_, by omega, Nat.le_refl _, by omega⟩, by omega, by simp [storeEmpty]⟩
  · have := heap_alloc_new ((w.alloc (Obj.map #[] 0)).alloc (Obj.map #[] 0)) (.cells #[.slice none 0 0, .map (some w.heap.size), .map (some (w.heap.size + 1))] 168)
    simpa using this
  · refine (JM.isM_new (kv := KeyK.v) w).same ?_
    rw [Lib.alloc_old _ _ _ (by simp; omega), Lib.alloc_old _ _ _ (by simp)]
  · have h1 := JM.isM_new (kv := CellK.v) (w.alloc (Obj.map #[] 0))
    simp only [World.size_alloc] at h1
    refine h1.same ?_
    rw [Lib.alloc_old _ _ _ (by simp)]

set_option maxHeartbeats 2000000 in
set_option maxRecDepth 100000 in
theorem storeNew_any (w : World) : Calls Tryz.prog 24 #[] w fun e w' => e = .returned (.pointer (some ⟨w.heap.size + 2, 0, none⟩)) ∧ IsStore w' w.heap.size (w.heap.size + 2) storeNew ∧ Below w.heap.size w w' := by
  have hmm := @run_makeMap Tryz.prog
  have h0 := isStore_empty w
  have hbW : Below w.heap.size w (((w.alloc (.map #[] 0)).alloc (.map #[] 0)).alloc (.cells #[.slice none 0 0, .map (some w.heap.size), .map (some (w.heap.size + 1))] 168)) := (((Below.refl _ w).alloc (Nat.le_refl _) _).alloc (by simp) _).alloc (by simp; omega) _
  have p1 := put_new w.heap.size (w.heap.size + 2) storeEmpty 1 0 0 0 _ h0 hbW.size rfl (by decide)
  have H0 := Lib.hid p1
  have HbW := Lib.hid hbW
  clear p1 h0 hbW
  go_enter Tryz.func24, Tryz.ntmps24
  go_wp2_with fail
  refine H0.out.mono ?_
  rintro e w1 ⟨rfl, h1, hb1, -⟩
  have hb1' := HbW.out.trans hb1
  have p2 := put_new w.heap.size (w.heap.size + 2) _ 2 0 0 0 w1 h1 hb1'.size (by decide) (by decide)
  have P2 := Lib.hid p2
  clear p2 h1 hb1
  go_wp2_with fail
  refine P2.out.mono ?_
  rintro e w2 ⟨rfl, h2, hb2, -⟩
  have hb2' := hb1'.trans hb2
  have p3 := put_new w.heap.size (w.heap.size + 2) _ 3 0 0 1 w2 h2 hb2'.size (by decide) (by decide)
  have P3 := Lib.hid p3
  clear p3 h2 hb2
  go_wp2_with fail
  refine P3.out.mono ?_
  rintro e w3 ⟨rfl, h3, hb3, -⟩
  go_wp2_with fail
  go_ret
  exact ⟨rfl, h3, hb2'.trans hb3⟩

set_option maxHeartbeats 1000000 in
theorem bound_any (n : Int) (w : World) (h1 : -4611686018427387903 ≤ n) (h2 : n ≤ 4611686018427387903) : Calls Tryz.prog 293 #[.int .i64 n] w fun e w' => e = .returned (.bool true) ∧ w = w' := by
  go_enter Tryz.func293, Tryz.ntmps293
  go_wp2
  go_ret
  exact ⟨rfl, rfl⟩

/-- the store, and the term, of a number that is named in a new store -/
def storeNum (n : Int) : StoreD × Int := if n = 0 then (storeNew, 2) else (storeNew.add0 ⟨3, 0, n, 1, []⟩, 3)

set_option maxHeartbeats 2000000 in
set_option maxRecDepth 100000 in
theorem num_any (B b : Nat) (n : Int) (w : World) (h : IsStore w B b storeNew) (hBw : B ≤ w.heap.size) (h1 : -4611686018427387903 ≤ n) (h2 : n ≤ 4611686018427387903) :
    Calls Tryz.prog 219 #[.pointer (some ⟨b, 0, none⟩), .int .i64 n] w fun e w' => e = .returned (.tuple #[.int .i64 (storeNum n).2, .int .i64 0]) ∧ IsStore w' B b (storeNum n).1 ∧ Below B w w' ∧ Keeps [168, 172] true w w' := by
  have hput : Calls Tryz.prog 74 #[.pointer (some ⟨b, 0, none⟩), .agg #[.int .u8 3, .int .i64 0, .int .i64 n, .int .i64 1, .slice none 0 0]] w fun e w' => e = .returned (.tuple #[.int .i64 (storeNum n).2, .int .i64 0]) ∧ IsStore w' B b (storeNum n).1 ∧ Below B w w' ∧ Keeps [168, 172] true w w' := by
    by_cases hn : n = 0
    · have e : storeNum n = (storeNew, 2) := if_pos hn
      rw [e, hn]
      refine (put_old B b storeNew 3 0 0 1 2 w h rfl).mono ?_
      rintro e w' ⟨he, hb⟩
      exact ⟨he, h.same hb, hb.mono hBw, fun k _ hk _ => (hb.block k (Array.getElem?_eq_some_iff.1 hk).1).trans hk⟩
    · have e : storeNum n = (storeNew.add0 ⟨3, 0, n, 1, []⟩, 3) := if_neg hn
      rw [e]
      refine (put_new B b storeNew 3 0 n 1 w h hBw ?_ (by decide)).mono ?_
      · simp [storeNew, storeEmpty, StoreD.add0, key0, JM.findAt, hn]
      · rintro e w' ⟨he, hs, hb, hk⟩
        exact ⟨he, hs, hb, hk⟩
  have hnone := storeNone_any B b storeNew w h
  have hbd := bound_any n w h1 h2
  have Hput := Lib.hid hput
  have Hnone := Lib.hid hnone
  have Hbd := Lib.hid hbd
  clear hput hnone hbd h h1 h2
  go_enter Tryz.func219, Tryz.ntmps219
  go_wp2_with (first | (go_at_call 84; refine Hnone.out.mono ?_; rintro e w' ⟨rfl, rfl⟩) | (go_at_call 293; refine Hbd.out.mono ?_; rintro e w' ⟨rfl, rfl⟩) | (go_at_call 74; refine Hput.out.mono ?_; rintro e w1 ⟨rfl, hs, hb, hk⟩))
  go_ret2
  exact ⟨rfl, hs, hb, hk⟩
end Go.Proofs.YtjdgfdpbiidldaaGreatDoor

namespace Go.Proofs.YtjdgfdpbiidldaaGreatDoor
open Go.RowKit

set_option maxHeartbeats 1000000 in
set_option maxRecDepth 100000 in
theorem among_any (s words : ByteArray) (w : World) (hw : words.size ≤ 1000) : Calls Tryz.prog 178 #[.string s, .string words] w fun e w' => (∃ b, e = .returned (.bool b)) ∧ w = w' := by
  go_enter Tryz.func178, Tryz.ntmps178
  go_wp2
  go_loopw [5, 6] (fun fr i wr => ∃ f k : Nat, fr = .int .i64 f ∧ i = .int .i64 k ∧ f ≤ k ∧ k ≤ words.size + 1 ∧ wr = w) (fun _ i _ => words.size + 1 - (intOf i).toNat)
  case atStart => exact ⟨0, 0, rfl, rfl, by omega, by omega, by first | rfl | trivial⟩
  case round =>
    obtain ⟨f, k, rfl, rfl, hfk, hk, rfl⟩ := hrel
    by_cases hlt : k ≤ words.size
    · by_cases he : k = words.size
      · subst he
        go_wp2
        all_goals first
          | (go_ret; exact ⟨⟨_, rfl⟩, rfl⟩)
          | (go_roundw
             case rel => exact ⟨words.size + 1, words.size + 1, by simp, by simp, by omega, by omega, by first | rfl | trivial⟩
             case measure => first | (simp [intOf]; done) | (simp [intOf]; omega))
      · have hlt2 : k < words.size := by omega
        have hkn : ((k : Int) == words.size) = false := by simp; omega
        clear he
        cases h32 : (((words[k].toNat : Nat) : Int) == 32) with
        | true =>
          go_wp2
          all_goals first
            | (go_ret; exact ⟨⟨_, rfl⟩, rfl⟩)
            | (go_roundw
               case rel => exact ⟨k + 1, k + 1, by simp, by simp, by omega, by omega, by first | rfl | trivial⟩
               case measure => first | (simp [intOf]; done) | (simp [intOf]; omega))
        | false =>
          go_wp2
          all_goals first
            | (go_ret; exact ⟨⟨_, rfl⟩, rfl⟩)
            | (go_roundw
               case rel => exact ⟨f, k + 1, rfl, by simp, by omega, by omega, by first | rfl | trivial⟩
               case measure => first | (simp [intOf]; done) | (simp [intOf]; omega))
    · go_wp2
      go_ret
      exact ⟨⟨_, rfl⟩, rfl⟩

set_option maxHeartbeats 1000000 in
set_option maxRecDepth 100000 in
theorem mayRef_any (s : ByteArray) (so : Bool) (w : World) (hs : s.size ≤ 9223372036854775806) : Calls Tryz.prog 109 #[.string s, .bool so] w fun e w' => (∃ b, e = .returned (.bool b)) ∧ w = w' := by
  have Hs := Lib.hid hs
  clear hs
  have ha : ∀ words w, words.size ≤ 1000 → Calls Tryz.prog 178 #[.string s, .string words] w fun e w' => (∃ b, e = .returned (.bool b)) ∧ w = w' := fun words w h => among_any s words w h
  have Ha := Lib.hid ha
  clear ha
  by_cases hp : 0 < s.size
  · have hne : ¬ s.toList = [] := fun e => toList_nil.1 e hp
    have hz : ((s.size : Int) == 0) = false := by rw [beq_eq_false_iff_ne]; omega
    go_enter Tryz.func109, Tryz.ntmps109
    go_wp2_with (go_at_call 178; refine (Ha.out _ _ (by decide)).mono ?_; rintro e w' ⟨⟨b, rfl⟩, rfl⟩)
    all_goals (try (go_ret; first | exact ⟨⟨_, rfl⟩, rfl⟩ | exact ⟨.inl rfl, rfl⟩ | exact ⟨.inr rfl, rfl⟩))
    all_goals
      go_loopw [5] (fun i wr => ∃ k : Nat, i = .int .i64 k ∧ k ≤ s.size ∧ wr = w) (fun i _ => s.size - (intOf i).toNat)
      case atStart => exact ⟨0, rfl, by omega, rfl⟩
      case round =>
        obtain ⟨k, rfl, hk, rfl⟩ := hrel
        have hkk : (k : Int) ≤ 1000 := by omega
        by_cases hlt : k < s.size
        · go_wp2
          all_goals first
            | (go_ret; first | exact ⟨⟨_, rfl⟩, rfl⟩ | exact ⟨.inl rfl, rfl⟩ | exact ⟨.inr rfl, rfl⟩)
            | (go_roundw
               case rel => exact ⟨k + 1, by simp, by omega, by first | rfl | trivial⟩
               case measure => first | (simp [intOf]; done) | (simp [intOf]; omega))
        · go_wp2_with (go_at_call 178; refine (Ha.out _ _ (by decide)).mono ?_; rintro e w' ⟨⟨b, rfl⟩, rfl⟩)
          all_goals (go_ret; first | exact ⟨⟨_, rfl⟩, rfl⟩ | exact ⟨.inl rfl, rfl⟩ | exact ⟨.inr rfl, rfl⟩)
  · have he : s.toList = [] := toList_nil.2 hp
    have hz : ((s.size : Int) == 0) = true := by rw [beq_iff_eq]; omega
    go_enter Tryz.func109, Tryz.ntmps109
    go_wp2
    go_ret
    first | exact ⟨⟨_, rfl⟩, rfl⟩ | exact ⟨.inl rfl, rfl⟩ | exact ⟨.inr rfl, rfl⟩

/-- an entry of the document's table: six cells -/
structure EntD where
  name : ByteArray
  args : Value
  res : Int
  defd : Bool
  level : Int
  stands : Bool
def entCells (e : EntD) : List Value := [.string e.name, e.args, .int .i64 e.res, .bool e.defd, .int .i64 e.level, .bool e.stands]
theorem entCells_len (e : EntD) : (entCells e).length = 6 := rfl

set_option maxHeartbeats 1000000 in
set_option maxRecDepth 100000 in
theorem findRef_any (B : Nat) (v : Value) (rows : List EntD) (s : ByteArray) (w : World) (h : w.ownsRow B 219 6 v rows.length (rows.flatMap entCells)) (hn : rows.length ≤ 2000) :
    Calls Tryz.prog 111 #[v, .string s] w fun e w' => (∃ n, e = .returned (.int .i64 n)) ∧ w = w' := by
  rcases ownsRow_shape h with ⟨rfl, h0⟩ | ⟨g, cap, cur, rfl, _⟩
  · have hr : rows = [] := List.eq_nil_of_length_eq_zero h0
    subst hr
    clear h
    go_enter Tryz.func111, Tryz.ntmps111
    go_wp2
    go_loopw [5] (fun i wr => i = .int .i64 0 ∧ wr = w) (fun _ _ => 0)
    case atStart => exact ⟨rfl, rfl⟩
    case round =>
      obtain ⟨rfl, rfl⟩ := hrel
      go_wp2
      go_ret
      exact ⟨⟨_, rfl⟩, rfl⟩
  · have hcell : ∀ k, k < rows.length → ∃ e : EntD, w.cell? ⟨g, k * 6, none⟩ = some (.string e.name) ∧ w.cell? ⟨g, k * 6 + 5, none⟩ = some (.bool e.stands) := by
      intro k hk
      refine ⟨rows[k], ?_, ?_⟩
      · have h1 := h.cellAt (k * 6) (by omega)
        rw [h1]
        exact flatMap_at entCells 6 entCells_len rows k 0 rows[k] (List.getElem?_eq_getElem hk) (by omega)
      · have h1 := h.cellAt (k * 6 + 5) (by omega)
        rw [h1]
        exact flatMap_at entCells 6 entCells_len rows k 5 rows[k] (List.getElem?_eq_getElem hk) (by omega)
    have Hcell := Lib.hid hcell
    clear hcell h
    go_enter Tryz.func111, Tryz.ntmps111
    go_wp2
    go_loopw [5] (fun i wr => ∃ k : Nat, i = .int .i64 k ∧ k ≤ rows.length ∧ wr = w) (fun i _ => rows.length - (intOf i).toNat)
    case atStart => exact ⟨0, rfl, by omega, rfl⟩
    case round =>
      obtain ⟨k, rfl, hk, rfl⟩ := hrel
      by_cases hlt : k < rows.length
      · obtain ⟨e, c0, c5⟩ := Hcell.out k hlt
        go_wp2
        all_goals first
          | (go_ret; exact ⟨⟨_, rfl⟩, rfl⟩)
          | (go_roundw
             case rel => exact ⟨k + 1, by simp, by omega, by first | rfl | trivial⟩
             case measure => first | (simp [intOf]; done) | (simp [intOf]; omega))
      · go_wp2
        go_ret
        exact ⟨⟨_, rfl⟩, rfl⟩
end Go.Proofs.YtjdgfdpbiidldaaGreatDoor

namespace Go.Proofs.YtjdgfdpbiidldaaGreatDoor
open Go.RowKit

theorem info219 : (Tryz.prog.info? 219).map (fun i => (i.zero, i.size, i.bytes)) = some (some (.agg #[.string ⟨#[]⟩, .slice none 0 0, .int .i64 0, .bool false, .int .i64 0, .bool false]), 6, 72) := by kernel_rfl

/-- the document's table lies at b -/
structure IsRef (w : World) (B b : Nat) : Prop where
  ex : ∃ v1 v2 d r1 r2, w.heap[b]? = some (.cells #[v1, v2, .int .i64 d] 130 (0, 0)) ∧ w.ownsRow B 219 6 v1 (r1 : List EntD).length (r1.flatMap entCells) ∧ r1.length ≤ 2000 ∧ w.ownsRow B 219 6 v2 (r2 : List EntD).length (r2.flatMap entCells) ∧ r2.length ≤ 2000 ∧ (∀ g, v1.ownBlock = some g → v2.ownBlock ≠ some g)
  own : B ≤ b

theorem IsRef.keeps {w w' : World} {B b : Nat} (h : IsRef w B b) {ts : List TypeId} {m : Bool} (k : Keeps ts m w w') (h1 : 130 ∉ ts) (h2 : 219 ∉ ts) : IsRef w' B b := by
  obtain ⟨⟨v1, v2, d, r1, r2, hb, ho1, l1, ho2, l2, hv⟩, hB⟩ := h
  exact ⟨⟨v1, v2, d, r1, r2, k b _ hb (by simpa [Touches] using h1), ownsRow_keeps ho1 k h2, l1, ownsRow_keeps ho2 k h2, l2, hv⟩, hB⟩

set_option maxHeartbeats 2000000 in
set_option maxRecDepth 100000 in
theorem declSortRef_any (B b : Nat) (s : ByteArray) (w : World) (h : IsRef w B b) (hs : s.size ≤ 9223372036854775806) (hBw : B ≤ w.heap.size) :
    Calls Tryz.prog 56 #[.pointer (some ⟨b, 0, none⟩), .string s] w fun e w' => (∃ x y, e = .returned (.tuple #[.int .i64 x, .int .i64 y])) ∧ Hid (IsRef w' B b ∧ Keeps [130, 219] false w w' ∧ Below B w w') := by
  have H := Lib.hid h
  obtain ⟨⟨v1, v2, d, r1, r2, hb, ho1, l1, ho2, l2, hv⟩, hB⟩ := h
  have hmay := fun w => mayRef_any s true w hs
  have hfind := fun w' (hh : w'.ownsRow B 219 6 v1 r1.length (r1.flatMap entCells)) => findRef_any B v1 r1 s w' hh l1
  have old : Hid (IsRef w B b ∧ Keeps [130, 219] false w w ∧ Below B w w) := Lib.hid ⟨H.out, Keeps.refl _ _ _, Below.refl _ _⟩
  obtain ⟨i0, hi, hz0, hz1, hz2⟩ := info_parts info219
  obtain ⟨ao, cap, rfl⟩ := ownsRow_len ho1
  have hblt : b < w.heap.size := (Array.getElem?_eq_some_iff.1 hb).1
  have hc0 : w.cell? ⟨b, 0, none⟩ = some (.slice ao r1.length cap) := by rw [Lib.cell_of_heap hb]; rfl
  have hc2 : w.cell? ⟨b, 2, none⟩ = some (.int .i64 d) := by rw [Lib.cell_of_heap hb]; rfl
  have hf0 : w.frozen? ⟨b, 0, none⟩ = false := Lib.frozen_of_heap hb 0
  have Hmay := Lib.hid hmay
  have Hfind := Lib.hid (hfind w ho1)
  clear hmay hfind hs
  go_enter Tryz.func56, Tryz.ntmps56
  go_wp2_with (first | (go_at_call 109; refine (Hmay.out _).mono ?_; rintro e w' ⟨⟨b0, rfl⟩, rfl⟩) | (go_at_call 111; refine Hfind.out.mono ?_; rintro e w' ⟨⟨n0, rfl⟩, rfl⟩))
  all_goals (try (go_ret2; exact ⟨⟨_, _, rfl⟩, old⟩))
  have hlt2 : (r1.length : Int) < 2000 := by assumption
  have hownA : (w.alloc (Obj.cells #[.string s, .slice none 0 0, .int .i64 0, .bool false, .int .i64 d, .bool true] 219)).drew.ownsRow B 219 6 (.slice ao r1.length cap) r1.length (r1.flatMap entCells) := ho1.alloc _
  have HownA := Lib.hid hownA; clear hownA
  have hcellsA : ∀ j u, (entCells ⟨s, .slice none 0 0, 0, false, d, true⟩)[j]? = some u → (w.alloc (Obj.cells #[.string s, .slice none 0 0, .int .i64 0, .bool false, .int .i64 d, .bool true] 219)).drew.cell? ((⟨w.heap.size, 0, none⟩ : Addr).add j) = some u := fun j u hj => new_cells w (entCells ⟨s, .slice none 0 0, 0, false, d, true⟩) 219 j u hj
  have HcellsA := Lib.hid hcellsA; clear hcellsA
  have hone : ∀ u ∈ entCells ⟨s, .slice none 0 0, 0, false, d, true⟩, u.oneCell' = true := by intro u hu; simp [entCells] at hu; rcases hu with rfl | rfl | rfl | rfl | rfl | rfl <;> rfl
  have Hone := Lib.hid hone; clear hone
  have hB1 : B ≤ (w.alloc (Obj.cells #[.string s, .slice none 0 0, .int .i64 0, .bool false, .int .i64 d, .bool true] 219)).drew.heap.size := by simp; omega
  have HB1 := Lib.hid hB1; clear hB1
  have Hlen := Lib.hid l1
  have Ho1 := Lib.hid ho1
  have Ho2 := Lib.hid ho2
  have Hv := Lib.hid hv
  have Hl2 := Lib.hid hlt2
  clear l1 ho1 ho2 hv old H Hmay Hfind
  go_cut [] (fun wx => ∃ g' cap', wx.heap[b]? = some (.cells #[.slice (some ⟨g', 0, none⟩) (r1.length + 1) cap', v2, .int .i64 d] 130 (0, 0)) ∧ wx.ownsRow B 219 6 (.slice (some ⟨g', 0, none⟩) (r1.length + 1) cap') (r1.length + 1) (r1.flatMap entCells ++ entCells ⟨s, .slice none 0 0, 0, false, d, true⟩) ∧
      Upd (fun k => k = b ∨ (Value.slice ao r1.length cap).ownBlock = some k) w wx ∧ ((Value.slice ao r1.length cap).ownBlock = some g' ∨ w.heap.size ≤ g'))
  case first =>
    go_region_law (refine step_append_own rfl (.tmp 29) (.tmp 37) 128 rfl B 219 i0 _ 6 72 Tryz.underlying128 hi hz0 hz1 hz2 rfl (by decide) (.slice ao r1.length cap) r1.length (r1.flatMap entCells) (by simp [Act.eval]) HownA.out ⟨w.heap.size, 0, none⟩ 1 1 (entCells ⟨s, .slice none 0 0, 0, false, d, true⟩) (by simp [Act.eval]) rfl HcellsA.out Hone.out (by have := Hlen.out; unfold maxLen; omega) (by have := Hlen.out; omega) HB1.out ?_; intro v' w' hown' hgrow hwhich; obtain ⟨g', cap', rfl⟩ := ownsRow_pos hown'; have hb2 : w'.heap[b]? = some (.cells #[.slice ao r1.length cap, v2, .int .i64 d] 130 (0, 0)) := (hgrow.block b (by simp; omega) (fun e => by obtain ⟨c, hc⟩ := ownsRow_kind Ho1.out b _ e.symm hb; cases hc)).trans ((Lib.alloc_old w _ b hblt).trans hb); have hc2 : w'.cell? ⟨b, 0, none⟩ = some (.slice ao r1.length cap) := by { rw [Lib.cell_of_heap hb2]; rfl }; have hf2 : w'.frozen? ⟨b, 0, none⟩ = false := Lib.frozen_of_heap hb2 0; have Hb2 := Lib.hid hb2; have Hown' := Lib.hid hown'; have Hgrow := Lib.hid hgrow; clear hb2 hown' hgrow)
    all_goals (go_wp2_with fail; go_meet)
    all_goals
      have hne : g' ≠ b := by
        intro e
        obtain ⟨c, hc⟩ := ownsRow_kind Hown'.out g' _ rfl (e ▸ Hb2.out)
        cases hc
      refine ⟨g', cap', heap_set_at Hb2.out 0 _, ownsRow_same Hown'.out (fun g hg => Below.heap_setCell _ _ _ _ (by simp [Value.ownBlock] at hg; subst hg; exact hne)), (((Upd.refl (fun k => k = b ∨ (Value.slice ao r1.length cap).ownBlock = some k) w).alloc _).drew.grown Hgrow.out (fun k hk _ => Or.inr hk)).setCell (p := ⟨b, 0, none⟩) (fun _ => Or.inl rfl) _, ?_⟩
      rcases hwhich g' rfl with h | h
      · exact .inl h
      · exact .inr (by simp at h; omega)
  case rest =>
    obtain ⟨g', cap', hb2, hown2, hupd2, hw2⟩ := hcut
    have d0 : wc.cell? ⟨b, 0, none⟩ = some (.slice (some ⟨g', 0, none⟩) (r1.length + 1) cap') := by rw [Lib.cell_of_heap hb2]; rfl
    have hlb : b < w.heap.size := hblt
    have hv2 : ∀ g, v2.ownBlock = some g → wc.heap[g]? = w.heap[g]? := fun g hg => hupd2.block g (Ho2.out.lt g hg).2 (by
      rintro (e | e)
      · subst e
        obtain ⟨c, hc⟩ := ownsRow_kind Ho2.out g _ hg hb
        cases hc
      · exact Hv.out g e hg)
    have hfin : IsRef wc B b ∧ Keeps [130, 219] false w wc ∧ Below B w wc := by
      refine ⟨⟨⟨.slice (some ⟨g', 0, none⟩) (r1.length + 1) cap', v2, d, r1 ++ [⟨s, .slice none 0 0, 0, false, d, true⟩], r2, hb2, by simpa using hown2, by simp; have := Hl2.out; omega, ownsRow_same Ho2.out hv2, l2, ?_⟩, hB⟩, ?_, ?_⟩
      · intro g hg hg2
        simp [Value.ownBlock] at hg
        subst hg
        rcases hw2 with e | e
        · exact Hv.out _ e hg2
        · have := (Ho2.out.lt _ hg2).2; omega
      · refine hupd2.keeps ?_
        rintro k o (rfl | e) hk
        · rw [hb] at hk; cases hk; simp [Touches]
        · obtain ⟨c, rfl⟩ := ownsRow_kind Ho1.out k _ e hk
          simp [Touches]
      · refine hupd2.below hBw ?_
        rintro k hk (rfl | e)
        · omega
        · have := (Ho1.out.lt k e).1; omega
    have Hfin := Lib.hid hfin
    clear hfin hv2 hb2 hown2 hupd2 hw2
    go_wp2
    go_ret2
    exact ⟨⟨_, _, rfl⟩, Hfin⟩
end Go.Proofs.YtjdgfdpbiidldaaGreatDoor

namespace Go.Proofs.YtjdgfdpbiidldaaGreatDoor
open Go.RowKit

theorem isRef_new (B : Nat) (w : World) (hB : B ≤ w.heap.size) : IsRef (w.alloc (.cells #[.slice none 0 0, .slice none 0 0, .int .i64 0] 130)) B w.heap.size :=
  ⟨⟨.slice none 0 0, .slice none 0 0, 0, [], [], heap_alloc_new w _, World.ownsRow_nil _ _ _ _, by simp, World.ownsRow_nil _ _ _ _, by simp, by intro g hg; simp [Value.ownBlock] at hg⟩, hB⟩

def uName : ByteArray := ⟨#[85]⟩
def tabU : TabD := ((⟨NamesD.empty, NamesD.empty⟩ : TabD).declSort uName).1

set_option maxHeartbeats 1000000 in
set_option maxRecDepth 100000 in
theorem tables_U (g cap : Nat) (w : World) (hg : g < w.heap.size) (h0 : w.cell? ⟨g, 0, none⟩ = some (.string ⟨#[85]⟩)) (h1 : w.cell? ⟨g, 1, none⟩ = some (.bool true)) :
    Calls Tryz.prog 16 #[.slice (some ⟨g, 0, none⟩) 1 cap] w fun e w' => ∃ b r, e = .returned (.tuple #[.pointer (some ⟨b, 0, none⟩), .pointer (some ⟨r, 0, none⟩)]) ∧ IsTab w' w.heap.size b tabU ∧ Below w.heap.size w w' := by
  go_enter Tryz.func16, Tryz.ntmps16
  go_wp2_with fail
  refine (new_any w).mono ?_
  rintro e w1 ⟨rfl, hT, hb1, hs1⟩
  obtain ⟨b, hbe⟩ : ∃ b, b = w.heap.size + 2 := ⟨_, rfl⟩
  rw [← hbe] at hT ⊢
  have hR : IsRef (w1.alloc (.cells #[.slice none 0 0, .slice none 0 0, .int .i64 0] 130)) w.heap.size w1.heap.size := isRef_new w.heap.size w1 hb1.size
  have hT2 : IsTab (w1.alloc (.cells #[.slice none 0 0, .slice none 0 0, .int .i64 0] 130)) w.heap.size b ⟨.empty, .empty⟩ := hT.keeps (ts := []) (keeps_alloc _ _ w1 _) (by simp) (by simp) (by simp) (by simp)
  have hb2 : Below w.heap.size w (w1.alloc (.cells #[.slice none 0 0, .slice none 0 0, .int .i64 0] 130)) := hb1.alloc hb1.size _
  clear hT hb1 hbe hs1
  go_wp2
  obtain ⟨W, hW⟩ : ∃ W, W = w1.alloc (.cells #[.slice none 0 0, .slice none 0 0, .int .i64 0] 130) := ⟨_, rfl⟩
  obtain ⟨r, hre⟩ : ∃ r, r = w1.heap.size := ⟨_, rfl⟩
  rw [← hW, ← hre] at hR
  rw [← hW] at hT2 hb2
  rw [← hW, ← hre]
  clear hW hre
  go_loopw [6] (fun i wr => (i = .int .i64 0 ∧ wr = W) ∨ (i = .int .i64 1 ∧ IsTab wr w.heap.size b tabU ∧ Below w.heap.size w wr)) (fun i _ => 1 - (intOf i).toNat)
  case atStart => exact .inl ⟨rfl, rfl⟩
  case round =>
    rcases hrel with ⟨rfl, rfl⟩ | ⟨rfl, hTf, hbf⟩
    · obtain ⟨c0, f0⟩ := bcell hb2
      have h0' : wr.cell? ⟨g, 0, none⟩ = some (.string ⟨#[85]⟩) := (c0 g 0 hg).trans h0
      have h1' : wr.cell? ⟨g, 1, none⟩ = some (.bool true) := (c0 g 1 hg).trans h1
      have hsz := hb2.size
      have hd := declSort_any w.heap.size b ⟨.empty, .empty⟩ uName wr hT2 hsz
      clear c0 f0
      go_wp2_with fail
      refine hd.mono ?_
      rintro e w2 ⟨rfl, hT3, hK3, hb3⟩
      have hR3 := hR.keeps hK3 (by decide) (by decide)
      have hb4 := hb2.trans hb3
      obtain ⟨c0, f0⟩ := bcell hb4
      have h0' : w2.cell? ⟨g, 0, none⟩ = some (.string ⟨#[85]⟩) := (c0 g 0 hg).trans h0
      have hd2 := declSortRef_any w.heap.size r ⟨#[85]⟩ w2 hR3 (by decide) hb4.size
      clear c0 f0 hd
      go_wp2_with fail
      refine hd2.mono ?_
      rintro e w3 ⟨⟨x, y, rfl⟩, hfin⟩
      obtain ⟨hR4, hK4, hb5⟩ := hfin.out
      have hT4 : IsTab w3 w.heap.size b tabU := hT3.keeps hK4 (by decide) (by decide) (by decide) (by decide)
      have hb6 := hb4.trans hb5
      clear hd2 hfin hR4 hK4 hb5 hT3 hb4 hR3 hK3 hb3
      go_wp2
      go_roundw
      case rel => exact .inr ⟨rfl, hT4, hb6⟩
      case measure => simp [intOf]
    · go_wp2
      go_ret2
      exact ⟨_, _, rfl, hTf, hbf⟩
end Go.Proofs.YtjdgfdpbiidldaaGreatDoor
