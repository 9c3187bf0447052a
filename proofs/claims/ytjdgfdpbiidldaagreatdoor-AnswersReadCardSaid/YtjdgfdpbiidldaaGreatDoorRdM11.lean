/-
  Layer 7 (elab): values of one numeral. Conditions: the reader lies there; the numeral is short.
  Layer 7 (elab): each over one numeral. Conditions: the reader lies there; the numeral is short.
  Layer 7 (elab): values and sums of one numeral. Conditions: the reader lies there; the numeral is short.
  Layer 7 (elab): plus, of nought and a number without bases. Conditions: the number's bounds.
  Layer 7 (elab): sum of one numeral, turned round. Conditions: the reader lies there; the numeral is short.
  Layer 7 (elab): sum of one numeral that is too great; the minus sign's reader. Conditions: the reader lies there; the numeral is short.
  Layer 7 (elab): look at (- n). Conditions: the reader lies there; the numeral is short.
  Layer 7 (elab): Term at a tree that look answers. Conditions: the book, the store lie there.
-/
import Derived.Test.YtjdgfdpbiidldaaGreatDoorRdM10
import Derived.Laws.EntriesVeiled
namespace Go.Proofs.YtjdgfdpbiidldaaGreatDoor
open Go.RowKit

/-- strconv's error lies there, below the reader -/
def ErrLaid (w : World) (rd : Nat) : Prop := 9 < rd ∧ ∃ te pe, w.cell? ⟨9, 0, none⟩ = some (.iface te pe)
theorem ErrLaid.below {w w' : World} {rd : Nat} (h : ErrLaid w rd) (hb : Below rd w w') : ErrLaid w' rd := by
  obtain ⟨h9, te, pe, hc⟩ := h
  exact ⟨h9, te, pe, (hb.cell (p := ⟨9, 0, none⟩) h9).trans hc⟩
theorem Upd.rd {w w' : World} {rd : Nat} (h : Upd (fun k => k = rd) w w') (hr : rd ≤ w.heap.size) : Below rd w w' := h.below hr (fun k hk e => by omega)
theorem Upd.cellOf {w w' : World} {rd b o : Nat} {v : Value} (h : Upd (fun k => k = rd) w w') (hb : b < w.heap.size) (hne : b ≠ rd) (hc : w.cell? ⟨b, o, none⟩ = some v) : w'.cell? ⟨b, o, none⟩ = some v := (cell_heap (h.block b hb hne) o).trans hc

set_option maxHeartbeats 2000000 in
set_option maxRecDepth 100000 in
theorem values1_num (rd bk n x3 x5 : Nat) (d tp : Int) (ao : Option Addr) (kn kc : Nat) (w : World) (h : IsReader w rd bk d) (hd : 0 ≤ d ∧ d ≤ 1000) (hn : n < 10 ^ 40) (he : ErrLaid w rd) (h3 : x3 < w.heap.size) (h5 : x5 < w.heap.size) (c3 : w.cell? ⟨x3, 0, none⟩ = some (.pointer (some ⟨rd, 0, none⟩))) (c5 : w.cell? ⟨x5, 0, none⟩ = some (.pointer none)) :
    Calls Tryz.prog 393 #[.agg #[.bool false, .int .u8 4, .string ⟨(Lib.decDigits n).toArray⟩, .int .i64 tp, .slice ao kn kc], .pointer (some ⟨x3, 0, none⟩), .pointer (some ⟨x5, 0, none⟩)] w fun e w' => e = .returned (.tuple #[.agg #[.int .i64 0, .bool true, .map none, .int .i64 (readVal n).1], .int .i64 (readVal n).2]) ∧ IsReader w' rd bk (d + 1) ∧ Upd (fun k => k = rd) w w' := by
  obtain ⟨S, hS⟩ : ∃ S : ByteArray, S = ⟨(Lib.decDigits n).toArray⟩ := ⟨_, rfl⟩
  have hrlt : rd < w.heap.size := (Array.getElem?_eq_some_iff.1 h).1
  obtain ⟨W, hW⟩ : ∃ W : World, W = ((w.alloc (.cells #[.bool false, .int .u8 4, .string S, .int .i64 tp, .slice ao kn kc] 36)).alloc (.cells #[.int .i64 0, .bool false, .map none, .int .i64 0] 283)) := ⟨_, rfl⟩
  have hb0 : Below w.heap.size w W := by rw [hW]; exact ((Below.refl _ w).alloc (Nat.le_refl _) _).alloc (by simp) _
  have hsz : W.heap.size = w.heap.size + 2 := by rw [hW]; simp
  have hV : W.heap[w.heap.size + 1]? = some (.cells #[.int .i64 0, .bool false, .map none, .int .i64 0] 283 (0, 0)) := by
    have := heap_alloc_new (w.alloc (.cells #[.bool false, .int .u8 4, .string S, .int .i64 tp, .slice ao kn kc] 36)) (.cells #[.int .i64 0, .bool false, .map none, .int .i64 0] 283)
    rw [← hW, World.size_alloc] at this
    exact this
  have he2 := he.below (hb0.mono (by omega))
  obtain ⟨h9, te, pe, hev⟩ := he2
  have hlk := look_num rd bk n d tp ao kn kc (.iface te pe) W ((hb0.block rd hrlt).trans h) hd hn hev h9 ⟨_, _, rfl⟩
  have c3' := (hb0.cell (p := ⟨x3, 0, none⟩) h3).trans c3
  have c5' := (hb0.cell (p := ⟨x5, 0, none⟩) h5).trans c5
  rw [← hS] at hlk ⊢
  obtain ⟨rv, re, hr⟩ : ∃ rv re, readVal n = (rv, re) := ⟨_, _, rfl⟩
  rw [hr] at hlk ⊢
  rw [hW] at hlk c3' c5'
  have Hlk := Lib.hid hlk
  have HV := Lib.hid hV
  have Hb0 := Lib.hid hb0
  have HW := Lib.hid hW
  have Hsz := Lib.hid hsz
  clear hlk hV hb0 hW hsz h hd hn he hev c3 c5 hr hS
  go_enter Tryz.func393, Tryz.ntmps393
  go_wp2_with fail
  refine Hlk.out.mono ?_
  rintro e w2 ⟨rfl, hrd, hu⟩
  rw [← HW.out] at hu
  have z2 := (hu.block (w.heap.size + 1) (by rw [Hsz.out]; omega) (by omega)).trans HV.out
  obtain ⟨⟨e0, e1, e2, e3⟩, g0, g1, g2, g3⟩ := cells4 z2
  have hU := (Upd.of_all Hb0.out (fun k => k = rd)).trans hu
  have Z2 := Lib.hid z2
  have HU := Lib.hid hU
  have Hrd := Lib.hid hrd
  clear z2 hU hrd hu c3' c5'
  go_wp2_with fail
  obtain ⟨W5, hW5, k1, k2, k3, k4⟩ := set4 (.int .i64 0) (.bool true) (.map none) (.int .i64 rv) Z2.out
  rw [← hW5]
  obtain ⟨⟨q0, q1, q2, q3⟩, _⟩ := cells4 k1
  exact bodyPost_ret (v := .tuple #[.agg #[.int .i64 0, .bool true, .map none, .int .i64 rv], .int .i64 re]) (by simp [results, Tryz.results393, go_sem, q0, q1, q2, q3]) rfl ⟨rfl, (k2 rd (by omega)).trans Hrd.out, by rw [hW5]; exact (((HU.out.setCell (p := ⟨w.heap.size + 1, 0, none⟩) (fun h => absurd h (by simp)) _).setCell (p := ⟨w.heap.size + 1, 1, none⟩) (fun h => absurd h (by simp)) _).setCell (p := ⟨w.heap.size + 1, 2, none⟩) (fun h => absurd h (by simp)) _).setCell (p := ⟨w.heap.size + 1, 3, none⟩) (fun h => absurd h (by simp)) _⟩
end Go.Proofs.YtjdgfdpbiidldaaGreatDoor

namespace Go.Proofs.YtjdgfdpbiidldaaGreatDoor
open Go.RowKit

theorem info283 : (Tryz.prog.info? 283).map (fun i => (i.zero, i.size, i.bytes)) = some (some (.agg #[.int .i64 0, .bool false, .map none, .int .i64 0]), 4, 32) := by kernel_rfl

/-- a numeral's tree lies as a slice's one element -/
def KidNum (w : World) (kb ko : Nat) (n : Nat) (tp : Int) (ao : Option Addr) (kn kc : Nat) : Prop :=
  w.cell? ⟨kb, ko, none⟩ = some (.bool false) ∧ w.cell? ⟨kb, ko + 1, none⟩ = some (.int .u8 4) ∧ w.cell? ⟨kb, ko + 2, none⟩ = some (.string ⟨(Lib.decDigits n).toArray⟩) ∧ w.cell? ⟨kb, ko + 3, none⟩ = some (.int .i64 tp) ∧ w.cell? ⟨kb, ko + 4, none⟩ = some (.slice ao kn kc)
theorem KidNum.keep {w w' : World} {kb ko n : Nat} {tp : Int} {ao : Option Addr} {kn kc : Nat} (h : KidNum w kb ko n tp ao kn kc) (hs : w'.heap[kb]? = w.heap[kb]?) : KidNum w' kb ko n tp ao kn kc := by
  obtain ⟨h0, h1, h2, h3, h4⟩ := h
  exact ⟨(cell_heap hs _).trans h0, (cell_heap hs _).trans h1, (cell_heap hs _).trans h2, (cell_heap hs _).trans h3, (cell_heap hs _).trans h4⟩

set_option maxHeartbeats 4000000 in
set_option maxRecDepth 100000 in
theorem each_num (rd bk n x3 x5 kb ko kc0 : Nat) (d tp rv re : Int) (ao : Option Addr) (kn kc : Nat) (w : World) (h : IsReader w rd bk d) (hd : 0 ≤ d ∧ d ≤ 1000) (hn : n < 10 ^ 40) (hrv : readVal n = (rv, re)) (he : ErrLaid w rd) (h3 : x3 < w.heap.size) (h5 : x5 < w.heap.size) (c3 : w.cell? ⟨x3, 0, none⟩ = some (.pointer (some ⟨rd, 0, none⟩))) (c5 : w.cell? ⟨x5, 0, none⟩ = some (.pointer none)) (hk : KidNum w kb ko n tp ao kn kc) :
    Calls Tryz.prog 392 #[.slice (some ⟨kb, ko, none⟩) 1 kc0, .func (.func 393) #[] #[.pointer (some ⟨x3, 0, none⟩), .pointer (some ⟨x5, 0, none⟩)]] w fun e w' => ∃ v', e = .returned (.tuple #[v', .int .i64 re]) ∧ (re = 0 → w'.ownsRow w.heap.size 283 4 v' 1 [.int .i64 0, .bool true, .map none, .int .i64 rv]) ∧ (re ≠ 0 → v' = .slice none 0 0) ∧ IsReader w' rd bk (d + 1) ∧ Upd (fun k => k = rd) w w' := by
  obtain ⟨i0, hi, hz0, hz1, hz2⟩ := info_parts info283
  obtain ⟨S, hS⟩ : ∃ S : ByteArray, S = ⟨(Lib.decDigits n).toArray⟩ := ⟨_, rfl⟩
  have hrlt : rd < w.heap.size := (Array.getElem?_eq_some_iff.1 h).1
  have hb0 : Below w.heap.size w (w.alloc (.cells #[.bool false, .int .u8 4, .string S, .int .i64 tp, .slice ao kn kc] 36)) := (Below.refl _ w).alloc (Nat.le_refl _) _
  have hlk := values1_num rd bk n x3 x5 d tp ao kn kc (w.alloc (.cells #[.bool false, .int .u8 4, .string S, .int .i64 tp, .slice ao kn kc] 36)) ((hb0.block rd hrlt).trans h) hd hn (he.below (hb0.mono (by omega))) (by simp; omega) (by simp; omega) ((hb0.cell (p := ⟨x3, 0, none⟩) h3).trans c3) ((hb0.cell (p := ⟨x5, 0, none⟩) h5).trans c5)
  obtain ⟨k0, k1, k2, k3, k4⟩ := hk
  rw [← hS] at hlk k2
  rw [hrv] at hlk
  have Hlk := Lib.hid hlk
  have Hb0 := Lib.hid hb0
  have Hi := Lib.hid hi
  clear hlk hb0 h hd hn he c3 c5 hrv hS h3 h5
  by_cases hre : re = 0
  · subst hre
    go_enter Tryz.func392, Tryz.ntmps392
    go_wp2_with fail
    refine wp_loop_rounds 2 ?_
    rw [rounds_succ]
    go_wp2_with (first | (go_at_call 393; refine Hlk.out.mono ?_; rintro e w2 ⟨rfl, hrd, hu⟩; have hcl : ∀ (j : Nat) u, [.int .i64 0, .bool true, .map none, .int .i64 rv][j]? = some u → ((w2.alloc (.cells #[.int .i64 0, .bool true, .map none, .int .i64 rv] 283)).alloc (.cells #[.int .i64 0, .bool true, .map none, .int .i64 rv] 283)).cell? ((⟨w2.heap.size + 1, 0, none⟩ : Addr).add j) = some u := (by intro j u hj; have h := new_cells (w2.alloc (.cells #[.int .i64 0, .bool true, .map none, .int .i64 rv] 283)) [.int .i64 0, .bool true, .map none, .int .i64 rv] 283 j u hj; rw [World.size_alloc] at h; exact h); have Hcl := Lib.hid hcl; have Hrd := Lib.hid hrd; have Hu := Lib.hid hu; clear hrd hu hcl) | (refine wpList_append_j (w := (w2.alloc (.cells #[.int .i64 0, .bool true, .map none, .int .i64 rv] 283)).alloc (.cells #[.int .i64 0, .bool true, .map none, .int .i64 rv] 283)) rfl (.tmp 26) (.tmp 28) 457 rfl w.heap.size 283 i0 _ 4 32 Tryz.underlying457 Hi.out hz0 hz1 hz2 rfl (by decide) (.slice none 0 0) 0 [] rfl (World.ownsRow_nil _ _ _ _) ⟨w2.heap.size + 1, 0, none⟩ 1 1 [.int .i64 0, .bool true, .map none, .int .i64 rv] rfl rfl Hcl.out (by intro u hu; simp at hu; rcases hu with rfl | rfl | rfl | rfl <;> rfl) (by unfold maxLen; omega) (by omega) (by have := Hu.out.size; simp at this ⊢; omega) ?_; intro v' w3 hown hgrow hwhich; obtain ⟨g', cap', rfl⟩ := ownsRow_pos hown; have Hown := Lib.hid hown; have Hgrow := Lib.hid hgrow; clear hown hgrow hwhich))
    rw [rounds_succ]
    go_wp2_with fail
    go_ret2
    have hU : Upd (fun k => k = rd) w w3 := ((((Upd.of_all Hb0.out (fun k => k = rd)).trans Hu.out).alloc (.cells #[.int .i64 0, .bool true, .map none, .int .i64 rv] 283)).alloc (.cells #[.int .i64 0, .bool true, .map none, .int .i64 rv] 283)).grown Hgrow.out (fun k e => by cases e)
    have hrd2 : rd < w2.heap.size := (Array.getElem?_eq_some_iff.1 Hrd.out).1
    have hrd3 : IsReader w3 rd bk (d + 1) := (Hgrow.out.block rd (by simp; omega) (by simp [Value.ownBlock])).trans ((Lib.alloc_old _ _ _ (by simp; omega)).trans ((Lib.alloc_old _ _ _ hrd2).trans Hrd.out))
    exact ⟨_, rfl, fun _ => Hown.out, fun h => absurd rfl h, hrd3, hU⟩
  · have hre2 : (re != 0) = true := by simpa using hre
    go_enter Tryz.func392, Tryz.ntmps392
    go_wp2_with fail
    refine wp_loop_rounds 2 ?_
    rw [rounds_succ]
    go_wp2_with (first | (go_at_call 393; refine Hlk.out.mono ?_; rintro e w2 ⟨rfl, hrd, hu⟩; have Hrd := Lib.hid hrd; have Hu := Lib.hid hu; clear hrd hu))
    go_ret2
    have hrd2 : rd < w2.heap.size := (Array.getElem?_eq_some_iff.1 Hrd.out).1
    exact ⟨_, rfl, fun h => absurd h hre, fun _ => rfl, (Lib.alloc_old _ _ _ hrd2).trans Hrd.out, ((Upd.of_all Hb0.out (fun k => k = rd)).trans Hu.out).alloc _⟩
end Go.Proofs.YtjdgfdpbiidldaaGreatDoor

namespace Go.Proofs.YtjdgfdpbiidldaaGreatDoor
open Go.RowKit

set_option maxHeartbeats 4000000 in
set_option maxRecDepth 100000 in
theorem values_num (rd bk n kb ko kc0 : Nat) (d tp rv re : Int) (ao : Option Addr) (kn kc : Nat) (w : World) (h : IsReader w rd bk d) (hd : 0 ≤ d ∧ d ≤ 1000) (hn : n < 10 ^ 40) (hrv : readVal n = (rv, re)) (he : ErrLaid w rd) (hk : KidNum w kb ko n tp ao kn kc) (hkb : kb < w.heap.size) :
    Calls Tryz.prog 353 #[.pointer (some ⟨rd, 0, none⟩), .slice (some ⟨kb, ko, none⟩) 1 kc0, .pointer none] w fun e w' => ∃ v', e = .returned (.tuple #[v', .int .i64 re]) ∧ (re = 0 → w'.ownsRow w.heap.size 283 4 v' 1 [.int .i64 0, .bool true, .map none, .int .i64 rv]) ∧ (re ≠ 0 → v' = .slice none 0 0) ∧ IsReader w' rd bk (d + 1) ∧ Upd (fun k => k = rd) w w' := by
  have hrlt : rd < w.heap.size := (Array.getElem?_eq_some_iff.1 h).1
  obtain ⟨W, hW⟩ : ∃ W : World, W = (w.alloc (.cells #[.pointer (some ⟨rd, 0, none⟩)] 179)).alloc (.cells #[.pointer none] 281) := ⟨_, rfl⟩
  have hb0 : Below w.heap.size w W := by rw [hW]; exact ((Below.refl _ w).alloc (Nat.le_refl _) _).alloc (by simp) _
  have hsz : W.heap.size = w.heap.size + 2 := by rw [hW]; simp
  have hx3 : W.cell? ⟨w.heap.size, 0, none⟩ = some (.pointer (some ⟨rd, 0, none⟩)) := by
    rw [hW, cell_heap (Lib.alloc_old _ _ _ (by simp)), Lib.cell_of_heap (heap_alloc_new w _)]; rfl
  have hx5 : W.cell? ⟨w.heap.size + 1, 0, none⟩ = some (.pointer none) := by
    have h := heap_alloc_new (w.alloc (.cells #[.pointer (some ⟨rd, 0, none⟩)] 179)) (.cells #[.pointer none] 281)
    rw [World.size_alloc] at h
    rw [hW, Lib.cell_of_heap h]; rfl
  have hea := each_num rd bk n w.heap.size (w.heap.size + 1) kb ko kc0 d tp rv re ao kn kc W ((hb0.block rd hrlt).trans h) hd hn hrv (he.below (hb0.mono (by omega))) (by omega) (by omega) hx3 hx5 (hk.keep (hb0.block kb hkb))
  rw [hW] at hea hb0
  have Hea := Lib.hid hea
  have Hb0 := Lib.hid hb0
  clear hea hb0 hW hsz hx3 hx5 h hd hn hrv he hk
  go_enter Tryz.func353, Tryz.ntmps353
  go_wp2_with (go_at_call 392; refine Hea.out.mono ?_; rintro e w2 ⟨v', rfl, h1, h2, hrd, hu⟩; have H1 := Lib.hid h1; have H2 := Lib.hid h2; have Hrd := Lib.hid hrd; have Hu := Lib.hid hu; clear h1 h2 hrd hu)
  go_ret2
  exact ⟨v', rfl, fun h => ownsRow_mono (H1.out h) (by simp; omega), H2.out, Hrd.out, (Upd.of_all Hb0.out (fun k => k = rd)).trans Hu.out⟩

set_option maxHeartbeats 1000000 in
theorem sums1_any (t n : Int) (q : Option Nat) (w : World) : Calls Tryz.prog 389 #[.agg #[.int .i64 t, .bool true, .map q, .int .i64 n]] w fun e w' => e = .returned (.bool false) ∧ Below w.heap.size w w' := by
  go_enter Tryz.func389, Tryz.ntmps389
  go_wp2
  go_ret
  refine ⟨rfl, ?_⟩
  repeat (first | exact Below.refl _ _ | refine Below.alloc ?_ (by simp) _ | refine Below.setCell ?_ (by simp) _)

set_option maxHeartbeats 2000000 in
set_option maxRecDepth 100000 in
theorem vindex_one (g c : Nat) (t n : Int) (q : Option Nat) (w : World) (c0 : w.cell? ⟨g, 0, none⟩ = some (.int .i64 t)) (c1 : w.cell? ⟨g, 1, none⟩ = some (.bool true)) (c2 : w.cell? ⟨g, 2, none⟩ = some (.map q)) (c3 : w.cell? ⟨g, 3, none⟩ = some (.int .i64 n)) :
    Calls Tryz.prog 409 #[.slice (some ⟨g, 0, none⟩) 1 c, .func (.func 389) #[] #[]] w fun e w' => e = .returned (.int .i64 (-1)) ∧ Below w.heap.size w w' := by
  have hs := sums1_any t n q w
  have Hs := Lib.hid hs
  clear hs
  go_enter Tryz.func409, Tryz.ntmps409
  go_wp2_with fail
  refine wp_loop_rounds 2 ?_
  rw [rounds_succ]
  go_wp2_with (go_at_call 389; refine Hs.out.mono ?_; rintro e w2 ⟨rfl, hb2⟩)
  rw [rounds_succ]
  go_wp2_with fail
  go_ret
  exact ⟨rfl, hb2⟩

set_option maxHeartbeats 2000000 in
set_option maxRecDepth 100000 in
theorem vcontains_one (g c : Nat) (t n : Int) (q : Option Nat) (w : World) (c0 : w.cell? ⟨g, 0, none⟩ = some (.int .i64 t)) (c1 : w.cell? ⟨g, 1, none⟩ = some (.bool true)) (c2 : w.cell? ⟨g, 2, none⟩ = some (.map q)) (c3 : w.cell? ⟨g, 3, none⟩ = some (.int .i64 n)) :
    Calls Tryz.prog 388 #[.slice (some ⟨g, 0, none⟩) 1 c, .func (.func 389) #[] #[]] w fun e w' => e = .returned (.bool false) ∧ Below w.heap.size w w' := by
  have hs := vindex_one g c t n q w c0 c1 c2 c3
  have Hs := Lib.hid hs
  clear hs c0 c1 c2 c3
  go_enter Tryz.func388, Tryz.ntmps388
  go_wp2_with (go_at_call 409; refine Hs.out.mono ?_; rintro e w2 ⟨rfl, hb2⟩)
  go_ret
  exact ⟨rfl, hb2⟩

set_option maxHeartbeats 4000000 in
set_option maxRecDepth 100000 in
theorem sums_num (rd bk n kb ko kc0 : Nat) (d tp rv re : Int) (ao : Option Addr) (kn kc : Nat) (w : World) (h : IsReader w rd bk d) (hd : 0 ≤ d ∧ d ≤ 1000) (hn : n < 10 ^ 40) (hrv : readVal n = (rv, re)) (he : ErrLaid w rd) (hk : KidNum w kb ko n tp ao kn kc) (hkb : kb < w.heap.size) :
    Calls Tryz.prog 345 #[.pointer (some ⟨rd, 0, none⟩), .slice (some ⟨kb, ko, none⟩) 1 kc0, .pointer none] w fun e w' => ∃ v', e = .returned (.tuple #[v', .int .i64 re]) ∧ (re = 0 → w'.ownsRow w.heap.size 283 4 v' 1 [.int .i64 0, .bool true, .map none, .int .i64 rv]) ∧ (re ≠ 0 → v' = .slice none 0 0) ∧ IsReader w' rd bk (d + 1) ∧ Upd (fun k => k = rd) w w' := by
  have hva := values_num rd bk n kb ko kc0 d tp rv re ao kn kc w h hd hn hrv he hk hkb
  have Hva := Lib.hid hva
  clear hva h hd hn hrv he hk hkb
  by_cases hre : re = 0
  · subst hre
    go_enter Tryz.func345, Tryz.ntmps345
    go_wp2_with (first | (go_at_call 353; refine Hva.out.mono ?_; rintro e w2 ⟨v', rfl, h1, h2, hrd, hu⟩; have h1 := h1 rfl; obtain ⟨g', cap', rfl⟩ := ownsRow_pos h1; have c0 := h1.cellAt 0 (by simp); have c1 := h1.cellAt 1 (by simp); have c2 := h1.cellAt 2 (by simp); have c3 := h1.cellAt 3 (by simp); have hcn := vcontains_one g' cap' 0 rv none w2 c0 c1 c2 c3; have Hcn := Lib.hid hcn; have H1 := Lib.hid h1; have Hrd := Lib.hid hrd; have Hu := Lib.hid hu; clear h1 h2 hrd hu c0 c1 c2 c3 hcn) | (go_at_call 388; refine Hcn.out.mono ?_; rintro e w3 ⟨rfl, hb3⟩))
    go_ret2
    exact ⟨_, rfl, fun _ => ownsRow_same H1.out (fun g hg => hb3.block g (H1.out.lt g hg).2), fun h => absurd rfl h, (hb3.block rd (Array.getElem?_eq_some_iff.1 Hrd.out).1).trans Hrd.out, Hu.out.trans (Upd.of_all hb3 _)⟩
  · have hre2 : (re == 0) = false := by simpa using hre
    go_enter Tryz.func345, Tryz.ntmps345
    go_wp2_with (first | (go_at_call 353; refine Hva.out.mono ?_; rintro e w2 ⟨v', rfl, h1, h2, hrd, hu⟩; have h2 := h2 hre; subst h2; have Hrd := Lib.hid hrd; have Hu := Lib.hid hu; clear h1 hrd hu))
    go_ret2
    exact ⟨_, rfl, fun h => absurd h hre, fun _ => rfl, Hrd.out, Hu.out⟩
end Go.Proofs.YtjdgfdpbiidldaaGreatDoor

namespace Go.Proofs.YtjdgfdpbiidldaaGreatDoor
open Go.RowKit

set_option maxHeartbeats 1000000 in
theorem dadd_any (b : Int) (w : World) (h1 : -4611686018427387904 ≤ b) (h2 : b ≤ 4611686018427387904) : Calls Tryz.prog 390 #[.int .i64 0, .int .i64 b] w fun e w' => e = .returned (.tuple #[.int .i64 b, .bool true]) ∧ w = w' := by
  by_cases hb : b < 0
  · go_enter Tryz.func390, Tryz.ntmps390
    go_wp2
    go_ret2
    exact ⟨by simp, rfl⟩
  · go_enter Tryz.func390, Tryz.ntmps390
    go_wp2
    go_ret2
    exact ⟨by simp, rfl⟩

set_option maxHeartbeats 4000000 in
set_option maxRecDepth 100000 in
theorem plus_neg (t rv : Int) (w : World) (h1 : 0 ≤ rv) (h2 : rv ≤ 4611686018427387903) :
    Calls Tryz.prog 348 #[.agg #[.int .i64 0, .bool true, .map none, .int .i64 0], .agg #[.int .i64 t, .bool true, .map none, .int .i64 rv], .int .i64 (-1)] w fun e w' => ∃ m, e = .returned (.tuple #[.agg #[.int .i64 0, .bool true, .map (some m), .int .i64 (-rv)], .int .i64 0]) ∧ NoBases w' (.map (some m)) ∧ Below w.heap.size w w' := by
  have hmm := @run_makeMap Tryz.prog
  obtain ⟨W0, hW0⟩ : ∃ W0 : World, W0 = ((((w.alloc (.cells #[.int .i64 0, .bool true, .map none, .int .i64 0] 283)).alloc (.cells #[.int .i64 t, .bool true, .map none, .int .i64 rv] 283)).alloc (.cells #[.int .i64 0, .bool false, .map none, .int .i64 0] 283)).alloc (.map #[] 0)).alloc (.cells #[.int .i64 0, .bool true, .map (some (w.heap.size + 1 + 1 + 1)), .int .i64 0] 283) := ⟨_, rfl⟩
  have hs0 : W0.heap.size = w.heap.size + 5 := by rw [hW0]; simp
  have hb0 : Below w.heap.size w W0 := by rw [hW0]; exact (((((Below.refl _ w).alloc (Nat.le_refl _) _).alloc (by simp) _).alloc (by simp; omega) _).alloc (by simp; omega) _).alloc (by simp; omega) _
  have x3 : W0.heap[w.heap.size]? = some (.cells #[.int .i64 0, .bool true, .map none, .int .i64 0] 283 (0, 0)) := by
    rw [hW0, Lib.alloc_old _ _ _ (by simp <;> omega), Lib.alloc_old _ _ _ (by simp <;> omega), Lib.alloc_old _ _ _ (by simp <;> omega), Lib.alloc_old _ _ _ (by simp)]
    exact heap_alloc_new w _
  have x4 : W0.heap[w.heap.size + 1]? = some (.cells #[.int .i64 t, .bool true, .map none, .int .i64 rv] 283 (0, 0)) := by
    rw [hW0, Lib.alloc_old _ _ _ (by simp <;> omega), Lib.alloc_old _ _ _ (by simp <;> omega), Lib.alloc_old _ _ _ (by simp)]
    have h := heap_alloc_new (w.alloc (.cells #[.int .i64 0, .bool true, .map none, .int .i64 0] 283)) (.cells #[.int .i64 t, .bool true, .map none, .int .i64 rv] 283)
    rw [World.size_alloc] at h; exact h
  have x6 : W0.heap[w.heap.size + 2]? = some (.cells #[.int .i64 0, .bool false, .map none, .int .i64 0] 283 (0, 0)) := by
    rw [hW0, Lib.alloc_old _ _ _ (by simp <;> omega), Lib.alloc_old _ _ _ (by simp)]
    have h := heap_alloc_new ((w.alloc (.cells #[.int .i64 0, .bool true, .map none, .int .i64 0] 283)).alloc (.cells #[.int .i64 t, .bool true, .map none, .int .i64 rv] 283)) (.cells #[.int .i64 0, .bool false, .map none, .int .i64 0] 283)
    simp only [World.size_alloc] at h; exact h
  have x8 : W0.heap[w.heap.size + 4]? = some (.cells #[.int .i64 0, .bool true, .map (some (w.heap.size + 1 + 1 + 1)), .int .i64 0] 283 (0, 0)) := by
    have h := heap_alloc_new ((((w.alloc (.cells #[.int .i64 0, .bool true, .map none, .int .i64 0] 283)).alloc (.cells #[.int .i64 t, .bool true, .map none, .int .i64 rv] 283)).alloc (.cells #[.int .i64 0, .bool false, .map none, .int .i64 0] 283)).alloc (.map #[] 0)) (.cells #[.int .i64 0, .bool true, .map (some (w.heap.size + 1 + 1 + 1)), .int .i64 0] 283)
    simp only [World.size_alloc] at h; rw [hW0]; exact h
  have xm : JM.IsM (Value.int .i64) W0 (w.heap.size + 1 + 1 + 1) [] := by
    have h := JM.isM_new (kv := Value.int .i64) (((w.alloc (.cells #[.int .i64 0, .bool true, .map none, .int .i64 0] 283)).alloc (.cells #[.int .i64 t, .bool true, .map none, .int .i64 rv] 283)).alloc (.cells #[.int .i64 0, .bool false, .map none, .int .i64 0] 283))
    simp only [World.size_alloc] at h
    refine h.same ?_
    rw [hW0, Lib.alloc_old _ _ _ (by simp)]
  obtain ⟨w1, r1, n1, b1, s1⟩ := range_gone W0 (.map none) (.inl rfl)
  obtain ⟨w2, r2, n2, b2, s2⟩ := range_gone w1 (.map none) (.inl rfl)
  have b12 := b1.trans (b2.mono b1.size)
  obtain ⟨w3, r3, n3, b3, s3⟩ := range_gone w2 (.map (some (w.heap.size + 1 + 1 + 1))) ((show NoBases W0 _ from .inr ⟨_, rfl, xm⟩).same b12)
  have b13 := b12.trans (b3.mono b12.size)
  have hnb : NoBases w3 (.map (some (w.heap.size + 1 + 1 + 1))) := (show NoBases W0 _ from .inr ⟨_, rfl, xm⟩).same b13
  obtain ⟨⟨_, _, p2, _⟩, _⟩ := cells4 ((b1.block (w.heap.size + 1) (by omega)).trans x4)
  obtain ⟨⟨_, _, q2, _⟩, _⟩ := cells4 ((b12.block (w.heap.size + 4) (by omega)).trans x8)
  obtain ⟨⟨_, _, _, o3⟩, _⟩ := cells4 ((b13.block w.heap.size (by omega)).trans x3)
  obtain ⟨⟨_, _, _, u3⟩, _⟩ := cells4 ((b13.block (w.heap.size + 1) (by omega)).trans x4)
  have z8 := (b13.block (w.heap.size + 4) (by omega)).trans x8
  have z6 := (b13.block (w.heap.size + 2) (by omega)).trans x6
  obtain ⟨⟨e0, e1, e2, e3⟩, f0, f1, f2, f3⟩ := cells4 z8
  obtain ⟨⟨i0, i1, i2, i3⟩, j0, j1, j2, j3⟩ := cells4 z6
  rw [hs0] at n1 r1
  rw [s1, hs0] at n2 r2
  rw [s2, s1, hs0] at n3 r3
  rw [hW0] at r1
  have hadd := fun w => dadd_any (-rv) w (by omega) (by omega)
  have hmul : (-1 : Int) * rv = -rv := by omega
  have Hadd := Lib.hid hadd
  have Hb := Lib.hid (hb0.trans (b13.mono hb0.size))
  have Hnb := Lib.hid hnb
  have Z6 := Lib.hid z6
  have Z8 := Lib.hid z8
  have Hs3 := Lib.hid s3
  have Hs2 := Lib.hid s2
  have Hs1 := Lib.hid s1
  have Hs0 := Lib.hid hs0
  clear hadd hnb z6 z8 b1 b2 b12 b3 b13 xm x3 x4 x6 x8 hb0 hW0 s1 s2 s3 hs0
  go_enter Tryz.func348, Tryz.ntmps348
  go_wp2_with fail
  refine wp_loop_rounds 1 ?_
  rw [rounds_succ]
  go_wp2_with fail
  refine wp_loop_rounds 1 ?_
  rw [rounds_succ]
  go_wp2_with fail
  refine wp_loop_rounds 1 ?_
  rw [rounds_succ]
  go_wp2_with (go_at_call 390; refine (Hadd.out _).mono ?_; rintro e w4 ⟨rfl, rfl⟩)
  obtain ⟨W4, hW4⟩ : ∃ W4, W4 = w3.setCell ⟨w.heap.size + 1 + 1 + 1 + 1, 3, none⟩ (.int .i64 (-rv)) := ⟨_, rfl⟩
  have z6' : W4.heap[w.heap.size + 1 + 1]? = some (.cells #[.int .i64 0, .bool false, .map none, .int .i64 0] 283 (0, 0)) := by rw [hW4, Below.heap_setCell _ _ _ _ (show w.heap.size + 1 + 1 ≠ w.heap.size + 1 + 1 + 1 + 1 by omega)]; exact Z6.out
  have hb4 : Below w.heap.size w W4 := by rw [hW4]; exact Hb.out.setCell (p := ⟨w.heap.size + 1 + 1 + 1 + 1, 3, none⟩) (by show w.heap.size ≤ w.heap.size + 1 + 1 + 1 + 1; omega) _
  have hm4 : W4.heap[w.heap.size + 1 + 1 + 1]? = w3.heap[w.heap.size + 1 + 1 + 1]? := by rw [hW4, Below.heap_setCell _ _ _ _ (show w.heap.size + 1 + 1 + 1 ≠ w.heap.size + 1 + 1 + 1 + 1 by omega)]
  rw [← hW4]
  obtain ⟨W5, hW5, k1, k2, k3, k4⟩ := set4 (.int .i64 0) (.bool true) (.map (some (w.heap.size + 1 + 1 + 1))) (.int .i64 (-rv)) z6'
  rw [← hW5]
  obtain ⟨⟨y0, y1, y2, y3⟩, _⟩ := cells4 k1
  refine bodyPost_ret (v := .tuple #[.agg #[.int .i64 0, .bool true, .map (some (w.heap.size + 1 + 1 + 1)), .int .i64 (-rv)], .int .i64 0]) (by simp [results, Tryz.results348, go_sem, y0, y1, y2, y3]) rfl ⟨_, rfl, ?_, hb4.trans (k4 _ (by omega))⟩
  rcases Hnb.out with h | ⟨mb, h, hm⟩
  · cases h
  · cases h
    exact .inr ⟨_, rfl, hm.same ((k2 _ (by omega)).trans hm4)⟩
end Go.Proofs.YtjdgfdpbiidldaaGreatDoor

namespace Go.Proofs.YtjdgfdpbiidldaaGreatDoor
open Go.RowKit

theorem readVal_ok {n : Nat} {rv : Int} (h : readVal n = (rv, 0)) : 0 ≤ rv ∧ rv ≤ 4611686018427387903 := by
  unfold readVal at h
  split at h
  · cases h; omega
  · cases h

theorem NoBases.set {w w' : World} {q : Option Nat} {b : Nat} {cs : Array Value} {e : TypeId} {fz : Nat × Nat} (h : NoBases w (.map q)) (hb : w.heap[b]? = some (.cells cs e fz)) (hk : ∀ k, k ≠ b → w'.heap[k]? = w.heap[k]?) : NoBases w' (.map q) := by
  rcases h with h | ⟨mb, h, hm⟩
  · exact .inl h
  · refine .inr ⟨mb, h, hm.same (hk mb ?_)⟩
    rintro rfl
    obtain ⟨es, clock, h2, _⟩ := hm
    rw [h2] at hb; cases hb

set_option maxHeartbeats 8000000 in
set_option maxRecDepth 100000 in
theorem sum_neg (rd bk n kb ko kc0 : Nat) (d tp rv : Int) (ao : Option Addr) (kn kc : Nat) (w : World) (h : IsReader w rd bk d) (hd : 0 ≤ d ∧ d ≤ 1000) (hn : n < 10 ^ 40) (hrv : readVal n = (rv, 0)) (he : ErrLaid w rd) (hk : KidNum w kb ko n tp ao kn kc) (hkb : kb < w.heap.size) :
    Calls Tryz.prog 289 #[.pointer (some ⟨rd, 0, none⟩), .slice (some ⟨kb, ko, none⟩) 1 kc0, .pointer none, .int .i64 (-1)] w fun e w' => ∃ m, e = .returned (.tuple #[.agg #[.int .i64 0, .bool true, .map (some m), .int .i64 (-rv)], .int .i64 0]) ∧ NoBases w' (.map (some m)) ∧ IsReader w' rd bk (d + 1) ∧ Upd (fun k => k = rd) w w' := by
  obtain ⟨i0, hi, hz0, hz1, hz2⟩ := info_parts info283
  have hrlt : rd < w.heap.size := (Array.getElem?_eq_some_iff.1 h).1
  have hb0 : Below w.heap.size w (w.alloc (.cells #[.int .i64 0, .bool false, .map none, .int .i64 0] 283)) := (Below.refl _ w).alloc (Nat.le_refl _) _
  have hsu := sums_num rd bk n kb ko kc0 d tp rv 0 ao kn kc (w.alloc (.cells #[.int .i64 0, .bool false, .map none, .int .i64 0] 283)) ((hb0.block rd hrlt).trans h) hd hn hrv (he.below (hb0.mono (by omega))) (hk.keep (hb0.block kb hkb)) (by simp; omega)
  have hT : (w.alloc (.cells #[.int .i64 0, .bool false, .map none, .int .i64 0] 283)).heap[w.heap.size]? = some (.cells #[.int .i64 0, .bool false, .map none, .int .i64 0] 283 (0, 0)) := heap_alloc_new w _
  obtain ⟨hr0, hr1⟩ := readVal_ok hrv
  have hpl := fun w => plus_neg 0 rv w hr0 hr1
  have Hsu := Lib.hid hsu
  have Hb0 := Lib.hid hb0
  have HT := Lib.hid hT
  have Hi := Lib.hid hi
  have Hpl := Lib.hid hpl
  clear hsu hb0 hT hpl h hd hn hrv he hk hkb hr0 hr1
  go_enter Tryz.func289, Tryz.ntmps289
  go_wp2_with fail
  refine Hsu.out.mono ?_
  rintro e w2 ⟨v', rfl, h1, -, hrd, hu⟩
  have h1 := h1 (by first | rfl | trivial)
  obtain ⟨g', cap', rfl⟩ := ownsRow_pos h1
  have c0 := h1.cellAt 0 (by simp)
  have c1 := h1.cellAt 1 (by simp)
  have c2 := h1.cellAt 2 (by simp)
  have c3 := h1.cellAt 3 (by simp)
  have hgl := h1.lt g' rfl
  have hs2 := hu.size
  simp only [World.size_alloc] at hgl hs2
  have t2 := (hu.block w.heap.size (by simp) (by omega)).trans HT.out
  have hcl : ∀ (j : Nat) u, [.int .i64 0, .bool true, .map none, .int .i64 rv][j]? = some u → ((w2.alloc (.cells #[.int .i64 0, .bool true, .map none, .int .i64 rv] 283)).alloc (.cells #[.int .i64 0, .bool true, .map none, .int .i64 rv] 283)).cell? ((⟨w2.heap.size + 1, 0, none⟩ : Addr).add j) = some u := by
    intro j u hj
    have h := new_cells (w2.alloc (.cells #[.int .i64 0, .bool true, .map none, .int .i64 rv] 283)) [.int .i64 0, .bool true, .map none, .int .i64 rv] 283 j u hj
    rw [World.size_alloc] at h
    exact h
  have hownA : ((w2.alloc (.cells #[.int .i64 0, .bool true, .map none, .int .i64 rv] 283)).alloc (.cells #[.int .i64 0, .bool true, .map none, .int .i64 rv] 283)).ownsRow (w.heap.size + 1) 283 4 (.slice (some ⟨g', 0, none⟩) 1 cap') 1 [.int .i64 0, .bool true, .map none, .int .i64 rv] := by
    have h := (h1.alloc (.cells #[.int .i64 0, .bool true, .map none, .int .i64 rv] 283)).alloc (.cells #[.int .i64 0, .bool true, .map none, .int .i64 rv] 283)
    rw [World.size_alloc] at h
    exact h
  have hup := (Upd.of_all Hb0.out (fun k => k = rd)).trans hu
  have Hcl := Lib.hid hcl
  have HownA := Lib.hid hownA
  have Hrd := Lib.hid hrd
  have Hup := Lib.hid hup
  have T2 := Lib.hid t2
  clear hcl hownA hrd hu hup t2 h1
  go_wp2_with (first | (refine wpList_append_j (w := (w2.alloc (.cells #[.int .i64 0, .bool true, .map none, .int .i64 rv] 283)).alloc (.cells #[.int .i64 0, .bool true, .map none, .int .i64 rv] 283)) rfl (.tmp 33) (.tmp 37) 457 rfl (w.heap.size + 1) 283 i0 _ 4 32 Tryz.underlying457 Hi.out hz0 hz1 hz2 rfl (by decide) (.slice (some ⟨g', 0, none⟩) 1 cap') 1 [.int .i64 0, .bool true, .map none, .int .i64 rv] rfl HownA.out ⟨w2.heap.size + 1, 0, none⟩ 1 1 [.int .i64 0, .bool true, .map none, .int .i64 rv] rfl rfl Hcl.out (by intro u hu; simp at hu; rcases hu with rfl | rfl | rfl | rfl <;> rfl) (by unfold maxLen; omega) (by omega) (by simp; omega) ?_; intro v3 w3 hown hgrow hwhich; obtain ⟨g3, cap3, rfl⟩ := ownsRow_pos hown; have hz3 := (hgrow.block w2.heap.size (by simp; omega) (by simp [Value.ownBlock]; omega)).trans ((Lib.alloc_old _ _ _ (by simp)).trans (heap_alloc_new w2 (.cells #[.int .i64 0, .bool true, .map none, .int .i64 rv] 283))); obtain ⟨⟨p0, p1, p2, p3⟩, f0, f1, f2, f3⟩ := cells4 hz3; have u0 := hown.cellAt 4 (by simp); have u1 := hown.cellAt 5 (by simp); have u2 := hown.cellAt 6 (by simp); have u3 := hown.cellAt 7 (by simp); have hne : ¬ g3 = w2.heap.size := (by rcases hwhich g3 rfl with hh | hh <;> simp [Value.ownBlock] at hh <;> omega); have hc3 : 2 ≤ cap3 := (by rcases ownsRow_shape hown with ⟨hx, _⟩ | ⟨_, _, _, hx, _, _, hy⟩ <;> cases hx <;> exact hy); have Hown := Lib.hid hown; have Hgrow := Lib.hid hgrow; have Hz3 := Lib.hid hz3; clear hown hgrow hwhich hz3))
  obtain ⟨W5, hW5, k1, k2, k3, k4⟩ := set4 (.int .i64 0) (.bool true) (.map none) (.int .i64 0) Hz3.out
  rw [← hW5]
  have v0 : W5.cell? ⟨g3, 4, none⟩ = some (.int .i64 0) := (cell_heap (k2 g3 hne) _).trans u0
  have v1 : W5.cell? ⟨g3, 5, none⟩ = some (.bool true) := (cell_heap (k2 g3 hne) _).trans u1
  have v2 : W5.cell? ⟨g3, 6, none⟩ = some (.map none) := (cell_heap (k2 g3 hne) _).trans u2
  have v3 : W5.cell? ⟨g3, 7, none⟩ = some (.int .i64 rv) := (cell_heap (k2 g3 hne) _).trans u3
  have hs3 := Hgrow.out.size
  simp only [World.size_alloc] at hs3
  have hrd2 : rd < w2.heap.size := (Array.getElem?_eq_some_iff.1 Hrd.out).1
  have hT5 : W5.heap[w.heap.size]? = some (.cells #[.int .i64 0, .bool false, .map none, .int .i64 0] 283 (0, 0)) := (k2 _ (by omega)).trans ((Hgrow.out.block _ (by simp; omega) (by simp [Value.ownBlock]; omega)).trans ((Lib.alloc_old _ _ _ (by simp; omega)).trans ((Lib.alloc_old _ _ _ (by omega)).trans T2.out)))
  have hR5 : IsReader W5 rd bk (d + 1) := (k2 _ (by omega)).trans ((Hgrow.out.block _ (by simp; omega) (by simp [Value.ownBlock]; omega)).trans ((Lib.alloc_old _ _ _ (by simp; omega)).trans ((Lib.alloc_old _ _ _ (by omega)).trans Hrd.out)))
  have hU5 : Upd (fun k => k = rd) w W5 := by
    rw [hW5]
    exact ((((((Hup.out.alloc _).alloc _).grown Hgrow.out (fun k e hk => by simp [Value.ownBlock] at e; omega)).setCell (p := ⟨w2.heap.size, 0, none⟩) (fun h => absurd h (by show ¬ w2.heap.size < _; omega)) _).setCell (p := ⟨w2.heap.size, 1, none⟩) (fun h => absurd h (by show ¬ w2.heap.size < _; omega)) _).setCell (p := ⟨w2.heap.size, 2, none⟩) (fun h => absurd h (by show ¬ w2.heap.size < _; omega)) _).setCell (p := ⟨w2.heap.size, 3, none⟩) (fun h => absurd h (by show ¬ w2.heap.size < _; omega)) _
  obtain ⟨⟨y0, y1, y2, y3⟩, _⟩ := cells4 ((Lib.alloc_old W5 (.cells #[.int .i64 0, .bool true, .map none, .int .i64 rv] 283) w2.heap.size (by omega)).trans k1)
  have hsz5 : w2.heap.size + 2 ≤ W5.heap.size := by omega
  have K1 := Lib.hid k1
  have HT5 := Lib.hid hT5
  have HR5 := Lib.hid hR5
  have HU5 := Lib.hid hU5
  clear hW5 k1 k2 k4 k3 p0 p1 p2 p3 f0 f1 f2 f3 u0 u1 u2 u3 hT5 hR5 hU5 c0 c1 c2 c3 hs3
  refine wp_loop_rounds 2 ?_
  rw [rounds_succ]
  go_wp2_with (go_at_call 348; refine (Hpl.out _).mono ?_; rintro e w6 ⟨m, rfl, hnb, hb6⟩; have z6 := (hb6.block w2.heap.size (by simp; omega)).trans ((Lib.alloc_old _ _ _ (by omega)).trans K1.out); have t6 := (hb6.block w.heap.size (by simp; omega)).trans ((Lib.alloc_old _ _ _ (by omega)).trans HT5.out); obtain ⟨⟨l0, l1, l2, l3⟩, l4, l5, l6, l7⟩ := cells4 z6; obtain ⟨⟨n0, n1, n2, n3⟩, n4, n5, n6, n7⟩ := cells4 t6; have Z6 := Lib.hid z6; have T6 := Lib.hid t6; have Hnb := Lib.hid hnb; have Hb6 := Lib.hid hb6; clear z6 t6 hnb hb6)
  rw [rounds_succ]
  go_wp2_with fail
  obtain ⟨W7, hW7, a1, a2, a3, a4⟩ := set4 (.int .i64 0) (.bool true) (.map (some m)) (.int .i64 (-rv)) Z6.out
  rw [← hW7]
  obtain ⟨W8, hW8, b1, b2, b3, b4⟩ := set4 (.int .i64 0) (.bool true) (.map (some m)) (.int .i64 (-rv)) ((a2 w.heap.size (by omega)).trans T6.out)
  rw [← hW8]
  obtain ⟨⟨o0, o1, o2, o3⟩, _⟩ := cells4 b1
  have hb6 := Hb6.out
  have hU8 : Upd (fun k => k = rd) w W8 := by
    refine ((HU5.out.alloc (.cells #[.int .i64 0, .bool true, .map none, .int .i64 rv] 283)).trans (Upd.of_all hb6 _)).then (T := fun k => w.heap.size ≤ k) ⟨?_, ?_, ?_, ?_, ?_⟩ (fun i hi h => by omega)
    · exact ((a4 w.heap.size (by omega)).trans (b4 w.heap.size (Nat.le_refl _))).os
    · exact ((a4 w.heap.size (by omega)).trans (b4 w.heap.size (Nat.le_refl _))).tape
    · exact ((a4 w.heap.size (by omega)).trans (b4 w.heap.size (Nat.le_refl _))).output
    · exact ((a4 w.heap.size (by omega)).trans (b4 w.heap.size (Nat.le_refl _))).size
    · intro k _ hk; exact ((a4 w.heap.size (by omega)).trans (b4 w.heap.size (Nat.le_refl _))).block k (by omega)
  have hR8 : IsReader W8 rd bk (d + 1) := (b2 rd (by omega)).trans ((a2 rd (by omega)).trans ((hb6.block rd (by simp; omega)).trans ((Lib.alloc_old _ _ _ (by omega)).trans HR5.out)))
  exact bodyPost_ret (v := .tuple #[.agg #[.int .i64 0, .bool true, .map (some m), .int .i64 (-rv)], .int .i64 0]) (by simp [results, Tryz.results289, go_sem, o0, o1, o2, o3]) rfl ⟨m, rfl, (Hnb.out.set Z6.out a2).set ((a2 w.heap.size (by omega)).trans T6.out) b2, hR8, hU8⟩
end Go.Proofs.YtjdgfdpbiidldaaGreatDoor

namespace Go.Proofs.YtjdgfdpbiidldaaGreatDoor
open Go.RowKit

set_option maxHeartbeats 4000000 in
set_option maxRecDepth 100000 in
theorem sum_err (rd bk n kb ko kc0 : Nat) (d tp rv re : Int) (ao : Option Addr) (kn kc : Nat) (w : World) (h : IsReader w rd bk d) (hd : 0 ≤ d ∧ d ≤ 1000) (hn : n < 10 ^ 40) (hrv : readVal n = (rv, re)) (hre : re ≠ 0) (he : ErrLaid w rd) (hk : KidNum w kb ko n tp ao kn kc) (hkb : kb < w.heap.size) :
    Calls Tryz.prog 289 #[.pointer (some ⟨rd, 0, none⟩), .slice (some ⟨kb, ko, none⟩) 1 kc0, .pointer none, .int .i64 (-1)] w fun e w' => e = .returned (.tuple #[.agg #[.int .i64 0, .bool false, .map none, .int .i64 0], .int .i64 re]) ∧ IsReader w' rd bk (d + 1) ∧ Upd (fun k => k = rd) w w' := by
  have hrlt : rd < w.heap.size := (Array.getElem?_eq_some_iff.1 h).1
  have hb0 : Below w.heap.size w (w.alloc (.cells #[.int .i64 0, .bool false, .map none, .int .i64 0] 283)) := (Below.refl _ w).alloc (Nat.le_refl _) _
  have hsu := sums_num rd bk n kb ko kc0 d tp rv re ao kn kc (w.alloc (.cells #[.int .i64 0, .bool false, .map none, .int .i64 0] 283)) ((hb0.block rd hrlt).trans h) hd hn hrv (he.below (hb0.mono (by omega))) (hk.keep (hb0.block kb hkb)) (by simp; omega)
  have hT : (w.alloc (.cells #[.int .i64 0, .bool false, .map none, .int .i64 0] 283)).heap[w.heap.size]? = some (.cells #[.int .i64 0, .bool false, .map none, .int .i64 0] 283 (0, 0)) := heap_alloc_new w _
  have hre2 : (re != 0) = true := by simpa using hre
  have Hsu := Lib.hid hsu
  have Hb0 := Lib.hid hb0
  have HT := Lib.hid hT
  have Hre := Lib.hid hre
  clear hsu hb0 hT h hd hn hrv he hk hkb hre
  go_enter Tryz.func289, Tryz.ntmps289
  go_wp2_with fail
  refine Hsu.out.mono ?_
  rintro e w2 ⟨v', rfl, -, h1, hrd, hu⟩
  have h1 := h1 (by first | exact Hre.out | trivial)
  subst h1
  have t2 := (hu.block w.heap.size (by simp) (by omega)).trans HT.out
  obtain ⟨⟨c0, c1, c2, c3⟩, f0, f1, f2, f3⟩ := cells4 t2
  have hup := (Upd.of_all Hb0.out (fun k => k = rd)).trans hu
  have Hrd := Lib.hid hrd
  have Hup := Lib.hid hup
  have T2 := Lib.hid t2
  clear hrd hu hup t2
  go_wp2_with fail
  obtain ⟨W5, hW5, k1, k2, k3, k4⟩ := set4 (.int .i64 0) (.bool false) (.map none) (.int .i64 0) T2.out
  rw [← hW5]
  obtain ⟨⟨q0, q1, q2, q3⟩, _⟩ := cells4 k1
  exact bodyPost_ret (v := .tuple #[.agg #[.int .i64 0, .bool false, .map none, .int .i64 0], .int .i64 re]) (by simp [results, Tryz.results289, go_sem, q0, q1, q2, q3]) rfl ⟨rfl, (k2 rd (by omega)).trans Hrd.out, by rw [hW5]; exact (((Hup.out.setCell (p := ⟨w.heap.size, 0, none⟩) (fun h => absurd h (by simp)) _).setCell (p := ⟨w.heap.size, 1, none⟩) (fun h => absurd h (by simp)) _).setCell (p := ⟨w.heap.size, 2, none⟩) (fun h => absurd h (by simp)) _).setCell (p := ⟨w.heap.size, 3, none⟩) (fun h => absurd h (by simp)) _⟩

/-- what the minus sign's reader answers: the sum, and the error -/
def negVal (rv re : Int) (m : Option Nat) : Value := .agg #[.int .i64 0, .bool (re == 0), .map m, .int .i64 (if re = 0 then -rv else 0)]

theorem sum_any (rd bk n kb ko kc0 : Nat) (d tp rv re : Int) (ao : Option Addr) (kn kc : Nat) (w : World) (h : IsReader w rd bk d) (hd : 0 ≤ d ∧ d ≤ 1000) (hn : n < 10 ^ 40) (hrv : readVal n = (rv, re)) (he : ErrLaid w rd) (hk : KidNum w kb ko n tp ao kn kc) (hkb : kb < w.heap.size) :
    Calls Tryz.prog 289 #[.pointer (some ⟨rd, 0, none⟩), .slice (some ⟨kb, ko, none⟩) 1 kc0, .pointer none, .int .i64 (-1)] w fun e w' => ∃ q, e = .returned (.tuple #[negVal rv re q, .int .i64 re]) ∧ NoBases w' (.map q) ∧ IsReader w' rd bk (d + 1) ∧ Upd (fun k => k = rd) w w' := by
  by_cases hre : re = 0
  · subst hre
    refine (sum_neg rd bk n kb ko kc0 d tp rv ao kn kc w h hd hn hrv he hk hkb).mono ?_
    rintro e w' ⟨m, rfl, h1, h2, h3⟩
    exact ⟨some m, rfl, h1, h2, h3⟩
  · refine (sum_err rd bk n kb ko kc0 d tp rv re ao kn kc w h hd hn hrv hre he hk hkb).mono ?_
    rintro e w' ⟨rfl, h2, h3⟩
    refine ⟨none, ?_, .inl rfl, h2, h3⟩
    have e1 : (re == 0) = false := by simpa using hre
    unfold negVal
    rw [e1, if_neg hre]

set_option maxHeartbeats 4000000 in
set_option maxRecDepth 100000 in
theorem words8_any (rd bk n kb ko kc0 : Nat) (d tp rv re : Int) (ao : Option Addr) (kn kc : Nat) (w : World) (h : IsReader w rd bk d) (hd : 0 ≤ d ∧ d ≤ 1000) (hn : n < 10 ^ 40) (hrv : readVal n = (rv, re)) (he : ErrLaid w rd) (hk : KidNum w kb ko n tp ao kn kc) (hkb : kb < w.heap.size) :
    Calls Tryz.prog 290 #[.pointer (some ⟨rd, 0, none⟩), .slice (some ⟨kb, ko, none⟩) 1 kc0, .pointer none] w fun e w' => ∃ q, e = .returned (.tuple #[negVal rv re q, .int .i64 re]) ∧ NoBases w' (.map q) ∧ IsReader w' rd bk (d + 1) ∧ Upd (fun k => k = rd) w w' := by
  have hrlt : rd < w.heap.size := (Array.getElem?_eq_some_iff.1 h).1
  have hb0 : Below w.heap.size w (w.alloc (.cells #[.int .i64 0, .bool false, .map none, .int .i64 0] 283)) := (Below.refl _ w).alloc (Nat.le_refl _) _
  have hsu := sum_any rd bk n kb ko kc0 d tp rv re ao kn kc (w.alloc (.cells #[.int .i64 0, .bool false, .map none, .int .i64 0] 283)) ((hb0.block rd hrlt).trans h) hd hn hrv (he.below (hb0.mono (by omega))) (hk.keep (hb0.block kb hkb)) (by simp; omega)
  have hT : (w.alloc (.cells #[.int .i64 0, .bool false, .map none, .int .i64 0] 283)).heap[w.heap.size]? = some (.cells #[.int .i64 0, .bool false, .map none, .int .i64 0] 283 (0, 0)) := heap_alloc_new w _
  unfold negVal at hsu ⊢
  obtain ⟨sb, hsb⟩ : ∃ sb, sb = (re == 0) := ⟨_, rfl⟩
  obtain ⟨sn, hsn⟩ : ∃ sn, sn = (if re = 0 then -rv else 0) := ⟨_, rfl⟩
  rw [← hsb, ← hsn] at hsu ⊢
  have Hsu := Lib.hid hsu
  have Hb0 := Lib.hid hb0
  have HT := Lib.hid hT
  clear hsu hb0 hT h hd hn hrv he hk hkb hsb hsn
  go_enter Tryz.func290, Tryz.ntmps290
  go_wp2_with fail
  refine Hsu.out.mono ?_
  rintro e w2 ⟨q, rfl, hnb, hrd, hu⟩
  have t2 := (hu.block w.heap.size (by simp) (by omega)).trans HT.out
  obtain ⟨⟨c0, c1, c2, c3⟩, f0, f1, f2, f3⟩ := cells4 t2
  have hup := (Upd.of_all Hb0.out (fun k => k = rd)).trans hu
  have Hrd := Lib.hid hrd
  have Hup := Lib.hid hup
  have Hnb := Lib.hid hnb
  have T2 := Lib.hid t2
  clear hrd hu hup t2 hnb
  go_wp2_with fail
  obtain ⟨W5, hW5, k1, k2, k3, k4⟩ := set4 (.int .i64 0) (.bool sb) (.map q) (.int .i64 sn) T2.out
  rw [← hW5]
  obtain ⟨⟨q0, q1, q2, q3⟩, _⟩ := cells4 k1
  exact bodyPost_ret (v := .tuple #[.agg #[.int .i64 0, .bool sb, .map q, .int .i64 sn], .int .i64 re]) (by simp [results, Tryz.results290, go_sem, q0, q1, q2, q3]) rfl ⟨q, rfl, Hnb.out.set T2.out k2, (k2 rd (by omega)).trans Hrd.out, by rw [hW5]; exact (((Hup.out.setCell (p := ⟨w.heap.size, 0, none⟩) (fun h => absurd h (by simp)) _).setCell (p := ⟨w.heap.size, 1, none⟩) (fun h => absurd h (by simp)) _).setCell (p := ⟨w.heap.size, 2, none⟩) (fun h => absurd h (by simp)) _).setCell (p := ⟨w.heap.size, 3, none⟩) (fun h => absurd h (by simp)) _⟩
end Go.Proofs.YtjdgfdpbiidldaaGreatDoor

namespace Go.Proofs.YtjdgfdpbiidldaaGreatDoor
open Go.RowKit

theorem findAt_at {k : ByteArray} {v : Value} : ∀ (l : List (ByteArray × Value)) (i j : Nat), l[i]? = some (k, v) → (l.map (·.1)).Nodup → JM.findAt k l j = some (j + i, v)
  | [], _, _, h, _ => by simp at h
  | p :: l, 0, j, h, _ => by
    simp at h
    subst h
    unfold JM.findAt
    rw [if_pos rfl]; rfl
  | p :: l, i + 1, j, h, hn => by
    simp at h
    simp only [List.map_cons, List.nodup_cons] at hn
    unfold JM.findAt
    rw [if_neg (fun e => hn.1 (List.mem_map.2 ⟨(k, v), List.mem_of_getElem? h, e⟩)), findAt_at l i (j + 1) h hn.2]
    congr 2; omega

theorem elabWords_minus (w : World) : Calls Tryz.prog 215 #[] w fun e w' => ∃ mb, e = .returned (.map (some mb)) ∧ mb < w'.heap.size ∧ (∀ w2 : World, w2.heap[mb]? = w'.heap[mb]? → (Instr.lookup 346 (.map (some mb)) (.string ⟨#[45]⟩) true).run Tryz.prog w2 = .ok (.tuple #[.agg #[.int .i64 1, .bool true, .func (.func 290) #[] #[]], .bool true]) w2) ∧ Below w.heap.size w w' := by
  refine (elabWords_any w).mono ?_
  rintro e w' ⟨l, rfl, hM, _, h13, hb⟩
  have hget : JM.get l (⟨#[45]⟩ : ByteArray) = some (.agg #[.int .i64 1, .bool true, .func (.func 290) #[] #[]]) := by
    obtain ⟨_, _, _, _, _, _, hnd⟩ := hM
    unfold JM.get
    rw [findAt_at l 13 0 h13 hnd]; rfl
  refine ⟨_, rfl, hM.lt, fun w2 hw2 => ?_, hb⟩
  have h := JM.run_lookup (P := Tryz.prog) (JM.string_kind Tryz.underlying9) Tryz.underlying346 (hM.same hw2) (z := .agg #[.int .i64 0, .bool false, .nilFunc]) (Tryz.zeroValue344 _) ⟨#[45]⟩ true
  rw [hget] at h
  exact h

theorem cells3 {w : World} {b : Nat} {e : TypeId} {x0 x1 x2 : Value} (h : w.heap[b]? = some (.cells #[x0, x1, x2] e (0, 0))) :
    (w.cell? ⟨b, 0, none⟩ = some x0 ∧ w.cell? ⟨b, 1, none⟩ = some x1 ∧ w.cell? ⟨b, 2, none⟩ = some x2) ∧ w.frozen? ⟨b, 0, none⟩ = false ∧ w.frozen? ⟨b, 1, none⟩ = false ∧ w.frozen? ⟨b, 2, none⟩ = false := by
  refine ⟨⟨?_, ?_, ?_⟩, Lib.frozen_of_heap h 0, Lib.frozen_of_heap h 1, Lib.frozen_of_heap h 2⟩ <;> (rw [Lib.cell_of_heap h]; rfl)

/-- the minus sign lies as a kid -/
def KidMinus (w : World) (kb ko : Nat) (tp : Int) (ao : Option Addr) (kn kc : Nat) : Prop :=
  w.cell? ⟨kb, ko, none⟩ = some (.bool false) ∧ w.cell? ⟨kb, ko + 1, none⟩ = some (.int .u8 3) ∧ w.cell? ⟨kb, ko + 2, none⟩ = some (.string ⟨#[45]⟩) ∧ w.cell? ⟨kb, ko + 3, none⟩ = some (.int .i64 tp) ∧ w.cell? ⟨kb, ko + 4, none⟩ = some (.slice ao kn kc)
theorem KidMinus.keep {w w' : World} {kb ko : Nat} {tp : Int} {ao : Option Addr} {kn kc : Nat} (h : KidMinus w kb ko tp ao kn kc) (hs : w'.heap[kb]? = w.heap[kb]?) : KidMinus w' kb ko tp ao kn kc := by
  obtain ⟨h0, h1, h2, h3, h4⟩ := h
  exact ⟨(cell_heap hs _).trans h0, (cell_heap hs _).trans h1, (cell_heap hs _).trans h2, (cell_heap hs _).trans h3, (cell_heap hs _).trans h4⟩

set_option maxHeartbeats 8000000 in
set_option maxRecDepth 100000 in
theorem look_neg (rd bk n kb ko kcp : Nat) (d tk tp tp0 tp1 rv re : Int) (tx : ByteArray) (ao0 ao1 : Option Addr) (kn0 kc0 kn1 kc1 : Nat) (w : World) (h : IsReader w rd bk d) (hd : 0 ≤ d ∧ d ≤ 900) (hn : n < 10 ^ 40) (hrv : readVal n = (rv, re)) (he : ErrLaid w rd) (hk0 : KidMinus w kb ko tp0 ao0 kn0 kc0) (hk1 : KidNum w kb (ko + 5) n tp1 ao1 kn1 kc1) (hkb : kb < w.heap.size) (hkr : kb ≠ rd) (hkc : 2 ≤ kcp) :
    Calls Tryz.prog 158 #[.pointer (some ⟨rd, 0, none⟩), .agg #[.bool true, .int .u8 tk, .string tx, .int .i64 tp, .slice (some ⟨kb, ko, none⟩) 2 kcp], .pointer none] w fun e w' => ∃ q, e = .returned (.tuple #[negVal rv re q, .int .i64 re]) ∧ NoBases w' (.map q) ∧ IsReader w' rd bk (d + 2) ∧ Upd (fun k => k = rd) w w' := by
  have hrlt : rd < w.heap.size := (Array.getElem?_eq_some_iff.1 h).1
  obtain ⟨A, hA⟩ : ∃ A : Obj, A = (.cells #[.bool true, .int .u8 tk, .string tx, .int .i64 tp, .slice (some ⟨kb, ko, none⟩) 2 kcp] 36) := ⟨_, rfl⟩
  obtain ⟨W, hW⟩ : ∃ W : World, W = ((w.setCell ⟨rd, 1, none⟩ (.int .i64 (d + 1))).alloc A).alloc (.cells #[.int .i64 0, .bool false, .map none, .int .i64 0] 283) := ⟨_, rfl⟩
  have hbel0 : Below w.heap.size w ((w.alloc A).alloc (.cells #[.int .i64 0, .bool false, .map none, .int .i64 0] 283)) := ((Below.refl _ w).alloc (Nat.le_refl _) _).alloc (by simp) _
  have hRd0 := (hbel0.block rd hrlt).trans h
  have hsz1 : (w.setCell ⟨rd, 1, none⟩ (.int .i64 (d + 1))).heap.size = w.heap.size := by simp [World.setCell]
  have hupd : Upd (fun k => k = rd) w W := by rw [hW]; exact (((Upd.refl (fun k => k = rd) w).setCell (p := ⟨rd, 1, none⟩) (fun _ => rfl) _).alloc _).alloc _
  have hRd : IsReader W rd bk (d + 1) := by
    rw [hW]
    show (((w.setCell _ _).alloc _).alloc _).heap[rd]? = _
    rw [Lib.alloc_old _ _ _ (by simp; omega), Lib.alloc_old _ _ _ (by omega)]
    exact heap_set_at h 1 _
  have hV : W.heap[w.heap.size + 1]? = some (.cells #[.int .i64 0, .bool false, .map none, .int .i64 0] 283 (0, 0)) := by
    have := heap_alloc_new ((w.setCell ⟨rd, 1, none⟩ (.int .i64 (d + 1))).alloc A) (.cells #[.int .i64 0, .bool false, .map none, .int .i64 0] 283)
    rw [← hW, World.size_alloc, hsz1] at this
    exact this
  have hTr : W.heap[w.heap.size]? = some A := by
    have := heap_alloc_new (w.setCell ⟨rd, 1, none⟩ (.int .i64 (d + 1))) A
    rw [hsz1] at this
    rw [hW, Lib.alloc_old _ _ _ (by simp [World.setCell])]
    exact this
  rw [hA] at hTr
  have hszW : W.heap.size = w.heap.size + 2 := by rw [hW]; simp [World.setCell]
  have hkW : W.heap[kb]? = w.heap[kb]? := hupd.block kb hkb hkr
  obtain ⟨⟨c0, c1⟩, f0, f1⟩ := cells2 hRd0
  obtain ⟨⟨c2, c3⟩, _⟩ := cells2 hRd
  rw [hW, hA] at c2 c3
  rw [hA] at c0 c1 f0 f1
  have hk0W := hk0.keep hkW
  have hk1W := hk1.keep hkW
  have heW := he.below (hupd.rd (by omega))
  have hd0 : -1000 ≤ d := by omega
  have hd1 : d ≤ 1000 := by omega
  have hsymL := fun w => isSymbol_any true tk tx tp (some ⟨kb, ko, none⟩) 2 kcp false rfl w
  have hsym0 := fun w => isSymbol_any false 3 ⟨#[45]⟩ tp0 ao0 kn0 kc0 true rfl w
  have hneg := fun w hr he hk hkb => words8_any rd bk n kb (ko + 5) (kcp - 1) (d + 1) tp1 rv re ao1 kn1 kc1 w hr (by omega) hn hrv he hk hkb
  have hwd := fun w => elabWords_minus w
  unfold negVal at hneg ⊢
  obtain ⟨sb, hsb⟩ : ∃ sb, sb = (re == 0) := ⟨_, rfl⟩
  obtain ⟨sn, hsn⟩ : ∃ sn, sn = (if re = 0 then -rv else 0) := ⟨_, rfl⟩
  rw [← hsb, ← hsn] at hneg ⊢
  rw [hA] at hW
  have HW := Lib.hid hW
  have HRd := Lib.hid hRd
  have HV := Lib.hid hV
  have HTr := Lib.hid hTr
  have HszW := Lib.hid hszW
  have Hupd := Lib.hid hupd
  have HsymL := Lib.hid hsymL
  have Hsym0 := Lib.hid hsym0
  have Hneg := Lib.hid hneg
  have Hwd := Lib.hid hwd
  have Hk0 := Lib.hid hk0W
  have Hk1 := Lib.hid hk1W
  have He := Lib.hid heW
  clear hW hRd hV hTr hszW hupd hsymL hsym0 hneg hwd hk0W hk1W heW hRd0 hbel0 h hd hsz1 hA hkW hk0 hk1 he hsb hsn hn hrv
  go_enter Tryz.func158, Tryz.ntmps158
  go_wp2_with fail
  refine (HsymL.out _).mono ?_
  rintro e w2 ⟨rfl, hb2⟩
  rw [← HW.out] at hb2
  have hszW := HszW.out
  have z2 := (hb2.block (w.heap.size + 1) (by omega)).trans HV.out
  have t2 := (hb2.block w.heap.size (by omega)).trans HTr.out
  have hRd2 : IsReader w2 rd bk (d + 1) := (hb2.block rd (by omega)).trans HRd.out
  have hU2 := Hupd.out.trans (Upd.of_all hb2 _)
  have hk2 := Hk0.out.keep (hb2.block kb (by omega))
  have hn2 := Hk1.out.keep (hb2.block kb (by omega))
  have he2 := He.out.below (hb2.mono (by omega))
  have hs2 : w.heap.size + 2 ≤ w2.heap.size := by have := hb2.size; omega
  obtain ⟨⟨u0, u1, u2, u3, u4⟩, _⟩ := cells5 t2
  obtain ⟨m0, m1, m2, m3, m4⟩ := hk2
  have hk2 : KidMinus w2 kb ko tp0 ao0 kn0 kc0 := ⟨m0, m1, m2, m3, m4⟩
  have Z2 := Lib.hid z2
  have T2 := Lib.hid t2
  have HRd2 := Lib.hid hRd2
  have HU2 := Lib.hid hU2
  have HK2 := Lib.hid hk2
  have HN2 := Lib.hid hn2
  have HE2 := Lib.hid he2
  clear hb2 z2 t2 hRd2 hU2 hk2 hn2 he2 c0 c1 c2 c3 f0 f1 hszW
  go_wp2_with fail
  refine (Hsym0.out _).mono ?_
  rintro e w3 ⟨rfl, hb3⟩
  have z3 := (hb3.block (w.heap.size + 1) (by omega)).trans Z2.out
  have t3 := (hb3.block w.heap.size (by omega)).trans T2.out
  have hRd3 : IsReader w3 rd bk (d + 1) := (hb3.block rd (by omega)).trans HRd2.out
  have hU3 := HU2.out.trans (Upd.of_all hb3 _)
  have hk3 := HK2.out.keep (hb3.block kb (by omega))
  have hn3 := HN2.out.keep (hb3.block kb (by omega))
  have he3 := HE2.out.below (hb3.mono (by omega))
  have hs3 : w.heap.size + 2 ≤ w3.heap.size := by have := hb3.size; omega
  obtain ⟨⟨v0, v1, v2, v3, v4⟩, _⟩ := cells5 t3
  obtain ⟨o0, o1, o2, o3, o4⟩ := hk3
  have hk3 : KidMinus w3 kb ko tp0 ao0 kn0 kc0 := ⟨o0, o1, o2, o3, o4⟩
  have Z3 := Lib.hid z3
  have T3 := Lib.hid t3
  have HRd3 := Lib.hid hRd3
  have HU3 := Lib.hid hU3
  have HK3 := Lib.hid hk3
  have HN3 := Lib.hid hn3
  have HE3 := Lib.hid he3
  clear hb3 z3 t3 hRd3 hU3 hk3 hn3 he3 u0 u1 u2 u3 u4 m0 m1 m2 m3 m4
  go_wp2_with fail
  have v4' : (w3.alloc (.cells #[.int .i64 0, .bool false, .nilFunc] 344)).cell? ⟨w.heap.size, 4, none⟩ = some (.slice (some ⟨kb, ko, none⟩) 2 kcp) := (cell_heap (Lib.alloc_old w3 _ _ (by omega)) 4).trans v4
  have o2' : (w3.alloc (.cells #[.int .i64 0, .bool false, .nilFunc] 344)).cell? ⟨kb, ko + 1 + 1, none⟩ = some (.string ⟨#[45]⟩) := (cell_heap (Lib.alloc_old w3 _ _ (by omega)) _).trans o2
  go_cut [11, 12] (fun v11 v12 wx => ∃ N, v11 = .pointer (some ⟨N, 0, none⟩) ∧ v12 = .bool true ∧ wx.heap[N]? = some (.cells #[.int .i64 1, .bool true, .func (.func 290) #[] #[]] 344 (0, 0)) ∧ Below w3.heap.size w3 wx)
  case first =>
    go_region_law (first | (go_simp; go_at_call 215; refine (Hwd.out _).mono ?_; rintro e w4 ⟨mb, rfl, hmb, hlk, hb4⟩; have hb4' : Below w3.heap.size w3 w4 := below_undrew hb4; have v5 : w4.cell? ⟨w.heap.size, 4, none⟩ = some (.slice (some ⟨kb, ko, none⟩) 2 kcp) := (cell_heap (hb4'.block _ (by omega)) 4).trans v4; have o5 : w4.cell? ⟨kb, ko + 2, none⟩ = some (.string ⟨#[45]⟩) := (cell_heap (hb4'.block _ (by omega)) _).trans o2; have v6 : (w4.alloc (.cells #[.int .i64 0, .bool false, .nilFunc] 344)).cell? ⟨w.heap.size, 4, none⟩ = some (.slice (some ⟨kb, ko, none⟩) 2 kcp) := (cell_heap (Lib.alloc_old w4 _ _ (by have := hb4'.size; omega)) 4).trans v5; have o6 : (w4.alloc (.cells #[.int .i64 0, .bool false, .nilFunc] 344)).cell? ⟨kb, ko + 1 + 1, none⟩ = some (.string ⟨#[45]⟩) := (cell_heap (Lib.alloc_old w4 _ _ (by have := hb4'.size; omega)) _).trans o5; have hl4 := hlk w4 rfl; have hl5 := hlk (w4.alloc (.cells #[.int .i64 0, .bool false, .nilFunc] 344)) (Lib.alloc_old _ _ _ hmb); have hl6 := hlk (w4.alloc (.cells #[.int .i64 0, .bool false, .nilFunc] 344)).drew (Lib.alloc_old _ _ _ hmb); have Hb4 := Lib.hid hb4'; clear hlk hb4 hb4') | (go_simp; go_at_call 215; refine (Hwd.out _).mono ?_; rintro e w4 ⟨mb, rfl, hmb, hlk, hb4⟩; have hq : Below (w3.alloc (.cells #[.int .i64 0, .bool false, .nilFunc] 344)).heap.size (w3.alloc (.cells #[.int .i64 0, .bool false, .nilFunc] 344)) w4 := below_undrew hb4; have zN := (hq.block w3.heap.size (by simp)).trans (heap_alloc_new w3 (.cells #[.int .i64 0, .bool false, .nilFunc] 344)); obtain ⟨⟨g0, g1, g2⟩, g3, g4, g5⟩ := cells3 zN; have hb4' : Below w3.heap.size w3 w4 := ((Below.refl _ w3).alloc (Nat.le_refl _) (.cells #[.int .i64 0, .bool false, .nilFunc] 344)).trans (hq.mono (by simp)); have v5 : w4.cell? ⟨w.heap.size, 4, none⟩ = some (.slice (some ⟨kb, ko, none⟩) 2 kcp) := (cell_heap (hb4'.block _ (by omega)) 4).trans v4; have o5 : w4.cell? ⟨kb, ko + 2, none⟩ = some (.string ⟨#[45]⟩) := (cell_heap (hb4'.block _ (by omega)) _).trans o2; have hl4 := hlk w4 rfl; have Hb4 := Lib.hid hb4'; have ZN := Lib.hid zN; clear hlk hb4 hb4' zN hq))
    all_goals (go_wp2_with fail; go_meet)
    all_goals first
      | exact ⟨_, rfl, rfl, heap_alloc_new w4 _, Hb4.out.alloc Hb4.out.size _⟩
      | exact ⟨_, rfl, rfl, heap_set_at (heap_set_at (heap_set_at ZN.out 0 _) 1 _) 2 _, ((Hb4.out.setCell (p := ⟨w3.heap.size, 0, none⟩) (Nat.le_refl _) _).setCell (p := ⟨w3.heap.size, 1, none⟩) (Nat.le_refl _) _).setCell (p := ⟨w3.heap.size, 2, none⟩) (Nat.le_refl _) _⟩
  case rest =>
    obtain ⟨N, rfl, rfl, hN, hbc⟩ := hcut
    obtain ⟨⟨l0, l1, l2⟩, _⟩ := cells3 hN
    have zc := (hbc.block (w.heap.size + 1) (by omega)).trans Z3.out
    have hRc : IsReader wc rd bk (d + 1) := (hbc.block rd (by omega)).trans HRd3.out
    have hUc := HU3.out.trans (Upd.of_all hbc _)
    have hnc := Hneg.out wc hRc (HE3.out.below (hbc.mono (by omega))) (HN3.out.keep (hbc.block kb (by omega))) (by have := hbc.size; omega)
    have hsc : w.heap.size + 2 ≤ wc.heap.size := by have := hbc.size; omega
    have Hnc := Lib.hid hnc
    have Zc := Lib.hid zc
    have HUc := Lib.hid hUc
    clear hN hbc zc hRc hUc hnc v0 v1 v2 v3 v4 o0 o1 o2 o3 o4 v4' o2'
    go_wp2_with (go_at_call 290; refine Hnc.out.mono ?_; rintro e w5 ⟨q, rfl, hnb, hrd5, hu5⟩; have z5 := (hu5.block (w.heap.size + 1) (by omega) (by omega)).trans Zc.out; obtain ⟨⟨e0, e1, e2, e3⟩, g0, g1, g2, g3⟩ := cells4 z5; have Z5 := Lib.hid z5; have Hnb := Lib.hid hnb; have Hrd5 := Lib.hid hrd5; have Hu5 := Lib.hid (HUc.out.trans hu5); clear z5 hnb hrd5 hu5)
    obtain ⟨W6, hW6, k1, k2, k3, k4⟩ := set4 (.int .i64 0) (.bool sb) (.map q) (.int .i64 sn) Z5.out
    rw [← hW6]
    obtain ⟨⟨q0, q1, q2, q3⟩, _⟩ := cells4 k1
    have hrd6 : IsReader W6 rd bk (d + 2) := by
      have h6 := (k2 rd (by omega)).trans Hrd5.out
      rw [show d + 1 + 1 = d + 2 by omega] at h6
      exact h6
    exact bodyPost_ret (v := .tuple #[.agg #[.int .i64 0, .bool sb, .map q, .int .i64 sn], .int .i64 re]) (by simp [results, Tryz.results158, go_sem, q0, q1, q2, q3]) rfl ⟨q, rfl, Hnb.out.set Z5.out k2, hrd6, by rw [hW6]; exact (((Hu5.out.setCell (p := ⟨w.heap.size + 1, 0, none⟩) (fun h => absurd h (by simp)) _).setCell (p := ⟨w.heap.size + 1, 1, none⟩) (fun h => absurd h (by simp)) _).setCell (p := ⟨w.heap.size + 1, 2, none⟩) (fun h => absurd h (by simp)) _).setCell (p := ⟨w.heap.size + 1, 3, none⟩) (fun h => absurd h (by simp)) _⟩
end Go.Proofs.YtjdgfdpbiidldaaGreatDoor

namespace Go.Proofs.YtjdgfdpbiidldaaGreatDoor
open Go.RowKit

/-- the world at the reader's look -/
def lookWorld (w : World) (bk : Nat) (tr : Array Value) : World := (w.alloc (.cells tr 36)).alloc (.cells #[.pointer (some ⟨bk, 0, none⟩), .int .i64 0] 181)

theorem lookWorld_reader (w : World) (bk : Nat) (tr : Array Value) : IsReader (lookWorld w bk tr) (w.heap.size + 1) bk 0 := by
  have h := heap_alloc_new (w.alloc (.cells tr 36)) (.cells #[.pointer (some ⟨bk, 0, none⟩), .int .i64 0] 181)
  rw [World.size_alloc] at h
  exact h
theorem lookWorld_below (w : World) (bk : Nat) (tr : Array Value) : Below w.heap.size w (lookWorld w bk tr) := ((Below.refl _ w).alloc (Nat.le_refl _) _).alloc (by simp) _
theorem lookWorld_size (w : World) (bk : Nat) (tr : Array Value) : (lookWorld w bk tr).heap.size = w.heap.size + 2 := by unfold lookWorld; simp

set_option maxHeartbeats 2000000 in
set_option maxRecDepth 100000 in
theorem TermE_of {R : Int → Int → World → Prop} (bk tb sb : Nat) (tl : Bool) (tk : Int) (tx : ByteArray) (tp : Int) (ao : Option Addr) (kn kc : Nat) (w : World) (hbk : bk < w.heap.size) (h0 : w.cell? ⟨bk, 0, none⟩ = some (.pointer (some ⟨tb, 0, none⟩))) (h1 : w.cell? ⟨bk, 1, none⟩ = some (.pointer (some ⟨sb, 0, none⟩)))
    (ht : Calls Tryz.prog 81 #[.pointer (some ⟨w.heap.size + 1, 0, none⟩), .agg #[.bool tl, .int .u8 tk, .string tx, .int .i64 tp, .slice ao kn kc], .pointer none] (lookWorld w bk #[.bool tl, .int .u8 tk, .string tx, .int .i64 tp, .slice ao kn kc]) fun e w' => ∃ t er, e = .returned (.tuple #[.int .i64 t, .int .i64 er]) ∧ R t er w') :
    Calls Tryz.prog 27 #[.pointer (some ⟨bk, 0, none⟩), .agg #[.bool tl, .int .u8 tk, .string tx, .int .i64 tp, .slice ao kn kc]] w fun e w' => ∃ t er, e = .returned (.tuple #[.int .i64 t, .int .i64 er]) ∧ R t er w' := by
  have hb : Below w.heap.size w (w.alloc (.cells #[.bool tl, .int .u8 tk, .string tx, .int .i64 tp, .slice ao kn kc] 36)) := (Below.refl _ w).alloc (Nat.le_refl _) _
  have hth := bookThere_any bk tb sb (w.alloc (.cells #[.bool tl, .int .u8 tk, .string tx, .int .i64 tp, .slice ao kn kc] 36)) ((hb.cell (p := ⟨bk, 0, none⟩) hbk).trans h0) ((hb.cell (p := ⟨bk, 1, none⟩) hbk).trans h1)
  unfold lookWorld at ht
  have Hth := Lib.hid hth
  have Ht := Lib.hid ht
  clear hth ht hb h0 h1
  go_enter Tryz.func27, Tryz.ntmps27
  go_wp2_with (first | (go_at_call 80; refine Hth.out.mono ?_; rintro e w' ⟨rfl, rfl⟩) | (go_at_call 81; refine Ht.out.mono ?_; rintro e w2 ⟨t, er, rfl, hq⟩))
  go_ret2
  exact ⟨t, er, rfl, hq⟩
/-- Term at a tree that look reads as a number, or refuses -/
theorem termE_look (bk tb sb B : Nat) (sm : Bool) (nv re : Int) (tl : Bool) (tk : Int) (tx : ByteArray) (tp : Int) (ao : Option Addr) (kn kc : Nat) (w : World) (hbk : bk < w.heap.size) (h0 : w.cell? ⟨bk, 0, none⟩ = some (.pointer (some ⟨tb, 0, none⟩))) (h1 : w.cell? ⟨bk, 1, none⟩ = some (.pointer (some ⟨sb, 0, none⟩))) (hs : IsStore w B sb storeNew) (hB : B ≤ w.heap.size)
    (hok : re = 0 → sm = true ∧ -4611686018427387903 ≤ nv ∧ nv ≤ 4611686018427387903)
    (hl : LookAns (w.heap.size + 1) bk 0 sm nv re (.agg #[.bool tl, .int .u8 tk, .string tx, .int .i64 tp, .slice ao kn kc]) ((lookWorld w bk #[.bool tl, .int .u8 tk, .string tx, .int .i64 tp, .slice ao kn kc]).alloc (.cells #[.bool tl, .int .u8 tk, .string tx, .int .i64 tp, .slice ao kn kc] 36))) :
    Calls Tryz.prog 27 #[.pointer (some ⟨bk, 0, none⟩), .agg #[.bool tl, .int .u8 tk, .string tx, .int .i64 tp, .slice ao kn kc]] w fun e w' => ∃ t er, e = .returned (.tuple #[.int .i64 t, .int .i64 er]) ∧ (er = re ∧ (re = 0 → t = (storeNum nv).2 ∧ IsStore w' B sb (storeNum nv).1) ∧ Below B w w' ∧ ∃ wm, Below w.heap.size w wm ∧ Keeps [168, 172] true wm w') := by
  have hlb := lookWorld_below w bk #[.bool tl, .int .u8 tk, .string tx, .int .i64 tp, .slice ao kn kc]
  have hsz := lookWorld_size w bk #[.bool tl, .int .u8 tk, .string tx, .int .i64 tp, .slice ao kn kc]
  refine TermE_of (R := fun t er w' => er = re ∧ (re = 0 → t = (storeNum nv).2 ∧ IsStore w' B sb (storeNum nv).1) ∧ Below B w w' ∧ ∃ wm, Below w.heap.size w wm ∧ Keeps [168, 172] true wm w') bk tb sb tl tk tx tp ao kn kc w hbk h0 h1 ?_
  by_cases hre : re = 0
  · subst hre
    obtain ⟨rfl, hb1, hb2⟩ := hok rfl
    refine (term_num (w.heap.size + 1) bk sb B 0 nv tl tk tx tp ao kn kc _ (by omega) ((hlb.cell (p := ⟨bk, 1, none⟩) hbk).trans h1) (by omega) w hs hlb (by omega) (by omega) hb1 hb2 hl).mono ?_
    rintro e w' ⟨rfl, h2, h3, wm, h4, h5⟩
    exact ⟨_, _, rfl, rfl, fun _ => ⟨rfl, h2⟩, (hlb.mono hB).trans h3, wm, hlb.trans (h4.mono (by omega)), h5⟩
  · refine (term_err (w.heap.size + 1) bk re 0 nv sm tl tk tx tp ao kn kc _ (by omega) hl hre).mono ?_
    rintro e w' ⟨rfl, h3⟩
    exact ⟨_, _, rfl, rfl, fun h => absurd h hre, (hlb.mono hB).trans (h3.mono (by omega)), w', hlb.trans (h3.mono (by omega)), fun _ _ h _ => h⟩

theorem errLaid_up {w w' : World} {rd : Nat} (h : ErrLaid w w.heap.size) (hb : Below w.heap.size w w') (hr : w.heap.size ≤ rd) : ErrLaid w' rd := by
  obtain ⟨h9, te, pe, hc⟩ := h
  exact ⟨by omega, te, pe, (hb.cell (p := ⟨9, 0, none⟩) h9).trans hc⟩

/-- Term at a numeral -/
theorem termE_num (bk tb sb B n : Nat) (rv re tp : Int) (ao : Option Addr) (kn kc : Nat) (w : World) (hbk : bk < w.heap.size) (h0 : w.cell? ⟨bk, 0, none⟩ = some (.pointer (some ⟨tb, 0, none⟩))) (h1 : w.cell? ⟨bk, 1, none⟩ = some (.pointer (some ⟨sb, 0, none⟩))) (hs : IsStore w B sb storeNew) (hB : B ≤ w.heap.size) (hn : n < 10 ^ 40) (hrv : readVal n = (rv, re)) (he : ErrLaid w w.heap.size) :
    Calls Tryz.prog 27 #[.pointer (some ⟨bk, 0, none⟩), .agg #[.bool false, .int .u8 4, .string ⟨(Lib.decDigits n).toArray⟩, .int .i64 tp, .slice ao kn kc]] w fun e w' => ∃ t er, e = .returned (.tuple #[.int .i64 t, .int .i64 er]) ∧ (er = re ∧ (re = 0 → t = (storeNum rv).2 ∧ IsStore w' B sb (storeNum rv).1) ∧ Below B w w' ∧ ∃ wm, Below w.heap.size w wm ∧ Keeps [168, 172] true wm w') := by
  have hlb := lookWorld_below w bk #[.bool false, .int .u8 4, .string ⟨(Lib.decDigits n).toArray⟩, .int .i64 tp, .slice ao kn kc]
  have hlb2 := hlb.alloc hlb.size (.cells #[.bool false, .int .u8 4, .string ⟨(Lib.decDigits n).toArray⟩, .int .i64 tp, .slice ao kn kc] 36)
  have hrd := lookWorld_reader w bk #[.bool false, .int .u8 4, .string ⟨(Lib.decDigits n).toArray⟩, .int .i64 tp, .slice ao kn kc]
  have hsz := lookWorld_size w bk #[.bool false, .int .u8 4, .string ⟨(Lib.decDigits n).toArray⟩, .int .i64 tp, .slice ao kn kc]
  refine termE_look bk tb sb B true rv re false 4 _ tp ao kn kc w hbk h0 h1 hs hB (fun h => ?_) ?_
  · subst h
    have := readVal_ok hrv
    exact ⟨rfl, by omega, by omega⟩
  · obtain ⟨h9, te, pe, hev⟩ := errLaid_up (rd := w.heap.size + 1) he hlb2 (by omega)
    have h := look_num (w.heap.size + 1) bk n 0 tp ao kn kc _ _ ((Lib.alloc_old _ _ _ (by omega)).trans hrd) ⟨by omega, by omega⟩ hn hev h9 ⟨_, _, rfl⟩
    rw [hrv] at h
    refine h.mono ?_
    rintro e w' ⟨rfl, hr2, hu⟩
    exact ⟨none, _, rfl, .inl rfl, hr2, hu.rd (by simp; omega)⟩

/-- Term at (- n) -/
theorem termE_neg (bk tb sb B n kb ko kcp : Nat) (rv re tk tp tp0 tp1 : Int) (tx : ByteArray) (ao0 ao1 : Option Addr) (kn0 kc0 kn1 kc1 : Nat) (w : World) (hbk : bk < w.heap.size) (h0 : w.cell? ⟨bk, 0, none⟩ = some (.pointer (some ⟨tb, 0, none⟩))) (h1 : w.cell? ⟨bk, 1, none⟩ = some (.pointer (some ⟨sb, 0, none⟩))) (hs : IsStore w B sb storeNew) (hB : B ≤ w.heap.size) (hn : n < 10 ^ 40) (hrv : readVal n = (rv, re)) (he : ErrLaid w w.heap.size) (hk0 : KidMinus w kb ko tp0 ao0 kn0 kc0) (hk1 : KidNum w kb (ko + 5) n tp1 ao1 kn1 kc1) (hkb : kb < w.heap.size) (hkc : 2 ≤ kcp) :
    Calls Tryz.prog 27 #[.pointer (some ⟨bk, 0, none⟩), .agg #[.bool true, .int .u8 tk, .string tx, .int .i64 tp, .slice (some ⟨kb, ko, none⟩) 2 kcp]] w fun e w' => ∃ t er, e = .returned (.tuple #[.int .i64 t, .int .i64 er]) ∧ (er = re ∧ (re = 0 → t = (storeNum (if re = 0 then -rv else 0)).2 ∧ IsStore w' B sb (storeNum (if re = 0 then -rv else 0)).1) ∧ Below B w w' ∧ ∃ wm, Below w.heap.size w wm ∧ Keeps [168, 172] true wm w') := by
  have hlb := lookWorld_below w bk #[.bool true, .int .u8 tk, .string tx, .int .i64 tp, .slice (some ⟨kb, ko, none⟩) 2 kcp]
  have hlb2 := hlb.alloc hlb.size (.cells #[.bool true, .int .u8 tk, .string tx, .int .i64 tp, .slice (some ⟨kb, ko, none⟩) 2 kcp] 36)
  have hrd := lookWorld_reader w bk #[.bool true, .int .u8 tk, .string tx, .int .i64 tp, .slice (some ⟨kb, ko, none⟩) 2 kcp]
  have hsz := lookWorld_size w bk #[.bool true, .int .u8 tk, .string tx, .int .i64 tp, .slice (some ⟨kb, ko, none⟩) 2 kcp]
  refine termE_look bk tb sb B (re == 0) (if re = 0 then -rv else 0) re true tk tx tp _ 2 kcp w hbk h0 h1 hs hB (fun h => ?_) ?_
  · subst h
    have := readVal_ok hrv
    exact ⟨rfl, by simp; omega, by simp; omega⟩
  · have h := look_neg (w.heap.size + 1) bk n kb ko kcp 0 tk tp tp0 tp1 rv re tx ao0 ao1 kn0 kc0 kn1 kc1 _ ((Lib.alloc_old _ _ _ (by omega)).trans hrd) ⟨by omega, by omega⟩ hn hrv (errLaid_up he hlb2 (by omega)) (hk0.keep (hlb2.block kb hkb)) (hk1.keep (hlb2.block kb hkb)) (by simp; omega) (by omega) hkc
    refine h.mono ?_
    rintro e w' ⟨q, rfl, hnb, hr2, hu⟩
    exact ⟨q, _, rfl, hnb, hr2, hu.rd (by simp; omega)⟩
end Go.Proofs.YtjdgfdpbiidldaaGreatDoor
