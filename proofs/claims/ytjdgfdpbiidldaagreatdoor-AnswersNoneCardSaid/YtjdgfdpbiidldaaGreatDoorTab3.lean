/-
  Layer 5 (sorts): add and DeclareSort, whole. No condition but that the table lies there.
-/
import Derived.Test.YtjdgfdpbiidldaaGreatDoorTab2
namespace Go.Proofs.YtjdgfdpbiidldaaGreatDoor
open Go.RowKit

set_option maxHeartbeats 1000000 in
set_option maxRecDepth 100000 in
theorem add_full (w : World) (B b o : Nat) (cs : Array Value) (va vm : Value) (mb : Nat) (N : NamesD) (rows : List (FunD × Value)) (f : FunD) (av : Value)
    (hb : w.heap[b]? = some (.cells cs 164 (0, 0))) (ha : cs[o]? = some va) (hm : cs[o + 1]? = some (.map (some mb)))
    (hN : IsNames w B va mb vm N rows) (hthere : (JM.findAt f.name (N.stands.map fun p => (p.1, Value.int .i64 p.2)) 0).isSome = false) (hfull : 2000 ≤ N.all.length) :
    Calls Tryz.prog 108 #[.pointer (some ⟨b, o, none⟩), .agg #[.string f.name, av, .int .i64 f.res, .bool f.defd]] w fun e w' => e = .returned (.tuple #[.int .i64 0, .int .i64 9]) ∧ ∃ nq, w' = (w.alloc (.cells #[.string f.name, av, .int .i64 f.res, .bool f.defd] 86)).drewN nq := by
  have hc0 : w.cell? ⟨b, o, none⟩ = some va := by rw [Lib.cell_of_heap hb]; exact ha
  have hc1 : w.cell? ⟨b, o + 1, none⟩ = some (.map (some mb)) := by rw [Lib.cell_of_heap hb]; exact hm
  have hblt : b < w.heap.size := (Array.getElem?_eq_some_iff.1 hb).1
  have hS := hN.stands
  have hlk : ∀ nq, (Instr.lookup 158 (.map (some mb)) (.string f.name) true).run Tryz.prog ((w.alloc (.cells #[.string f.name, av, .int .i64 f.res, .bool f.defd] 86)).drewN nq) = .ok (.tuple #[((JM.get (N.stands.map fun p => (p.1, Value.int .i64 p.2)) f.name).getD (.int .i64 0)), .bool false]) ((w.alloc (.cells #[.string f.name, av, .int .i64 f.res, .bool f.defd] 86)).drewN nq) := by
    intro nq
    have h1 : JM.IsM Value.string ((w.alloc (.cells #[.string f.name, av, .int .i64 f.res, .bool f.defd] 86)).drewN nq) mb (N.stands.map fun p => (p.1, Value.int .i64 p.2)) := hS.same (Lib.alloc_old w _ mb hS.lt)
    have h2 := JM.run_lookup (P := Tryz.prog) (JM.string_kind Tryz.underlying9) Tryz.underlying158 h1 (z := .int .i64 0) (Tryz.zeroValue3 _) f.name true
    rw [h2]
    simp [JM.get, hthere]
  have hlen : rows.length = N.all.length := by rw [← hN.hall]; simp
  obtain ⟨ao, cap, rfl⟩ := ownsRow_len hN.row
  have hge : (2000 : Int) ≤ (rows.length : Int) := by omega
  clear hlen hfull hthere
  go_enter Tryz.func108, Tryz.ntmps108
  go_wp2
  go_quiet (fail)
  go_wp2
  go_ret2
  exact ⟨rfl, _, rfl⟩

theorem Below.keeps_all {w w' : World} (h : Below w.heap.size w w') (ts : List TypeId) (m : Bool) : Keeps ts m w w' :=
  fun k _ hk _ => (h.block k (Array.getElem?_eq_some_iff.1 hk).1).trans hk

/-- 'add', whole -/
theorem add_any (w : World) (B b o : Nat) (cs : Array Value) (va vm : Value) (mb : Nat) (N : NamesD) (rows : List (FunD × Value)) (f : FunD) (av : Value)
    (hb : w.heap[b]? = some (.cells cs 164 (0, 0))) (ha : cs[o]? = some va) (hm : cs[o + 1]? = some (.map (some mb))) (hB : B ≤ b) (hBw : B ≤ w.heap.size)
    (hN : IsNames w B va mb vm N rows) (hav : IntsAt 47 w av f.args) :
    Calls Tryz.prog 108 #[.pointer (some ⟨b, o, none⟩), .agg #[.string f.name, av, .int .i64 f.res, .bool f.defd]] w fun e w' =>
      e = .returned (.tuple #[.int .i64 (N.add f).2.1, .int .i64 (N.add f).2.2]) ∧
      ∃ va' rows', w'.heap[b]? = some (.cells (cs.setIfInBounds o va') 164 (0, 0)) ∧ IsNames w' B va' mb vm (N.add f).1 rows' ∧
        (∀ g, va'.ownBlock = some g → va.ownBlock = some g ∨ w.heap.size ≤ g) ∧ Upd (fun k => k = b ∨ k = mb ∨ va.ownBlock = some k) w w' := by
  have old : ∀ (w' : World), Below w.heap.size w w' → ∃ va' rows', w'.heap[b]? = some (.cells (cs.setIfInBounds o va') 164 (0, 0)) ∧ IsNames w' B va' mb vm N rows' ∧
        (∀ g, va'.ownBlock = some g → va.ownBlock = some g ∨ w.heap.size ≤ g) ∧ Upd (fun k => k = b ∨ k = mb ∨ va.ownBlock = some k) w w' := by
    intro w' hbel
    have hblt : b < w.heap.size := (Array.getElem?_eq_some_iff.1 hb).1
    refine ⟨va, rows, ?_, hN.keeps (ts := []) (Below.keeps_all hbel [] false) (by simp) (by simp) (by simp), fun g hg => .inl hg, Upd.of_all hbel _⟩
    rw [hbel.block b hblt, hb]
    congr 2
    obtain ⟨hi, he⟩ := Array.getElem?_eq_some_iff.1 ha
    apply Array.ext_getElem?
    intro j
    rw [Array.getElem?_setIfInBounds]
    split
    · rename_i e; subst e; simp [hi, he]
    · rfl
  cases ht : (JM.findAt f.name (N.stands.map fun p => (p.1, Value.int .i64 p.2)) 0).isSome with
  | true =>
    have e1 : N.add f = (N, 0, 8) := by simp [NamesD.add, ht]
    rw [e1]
    refine (add_there w B b o cs va vm mb N rows f av hb hm hN ht).mono ?_
    rintro e w' ⟨rfl, nq, rfl⟩
    exact ⟨rfl, old _ (below_drewN ((Below.refl _ w).alloc (Nat.le_refl _) _) _)⟩
  | false =>
    by_cases hr : 2000 ≤ N.all.length
    · have e1 : N.add f = (N, 0, 9) := by simp [NamesD.add, ht, hr]
      rw [e1]
      refine (add_full w B b o cs va vm mb N rows f av hb ha hm hN ht hr).mono ?_
      rintro e w' ⟨rfl, nq, rfl⟩
      exact ⟨rfl, old _ (below_drewN ((Below.refl _ w).alloc (Nat.le_refl _) _) _)⟩
    · have e1 : N.add f = (⟨N.all ++ [f], N.stands ++ [(f.name, N.all.length)], N.marks⟩, N.all.length, 0) := by simp [NamesD.add, ht, hr]
      rw [e1]
      refine (add_new w B b o cs va vm mb N rows f av hb ha hm hB hBw hN hav ht (by omega)).mono ?_
      rintro e w' ⟨rfl, va', h1, h2, h3, h4⟩
      exact ⟨rfl, va', _, h1, h2, h3, h4⟩

def boolInt : List ByteArray := [⟨#[66, 111, 111, 108]⟩, ⟨#[73, 110, 116]⟩]

def TabD.declSort (T : TabD) (name : ByteArray) : TabD × Int × Int :=
  if mayB name boolInt then
    if (T.sorts.add ⟨name, [], 0, false⟩).2.2 = 0 then (⟨(T.sorts.add ⟨name, [], 0, false⟩).1, T.funs⟩, (T.sorts.add ⟨name, [], 0, false⟩).2.1 + 2, 0)
    else (⟨(T.sorts.add ⟨name, [], 0, false⟩).1, T.funs⟩, 0, (T.sorts.add ⟨name, [], 0, false⟩).2.2)
  else (T, 0, 50)

theorem add_le (N : NamesD) (f : FunD) : (N.add f).2.1 ≤ N.all.length := by
  unfold NamesD.add
  split
  · simp
  · split <;> simp

/-- a sort added: the table behind it -/
theorem tab_added {w1 w2 : World} {B b : Nat} {T : TabD} {vs vsm vf vfm : Value} {ms mf : Nat} {rs rf : List (FunD × Value)} {N' : NamesD}
    (hb : w1.heap[b]? = some (.cells #[vs, .map (some ms), vsm, vf, .map (some mf), vfm] 164 (0, 0))) (hS : IsNames w1 B vs ms vsm T.sorts rs) (hF : IsNames w1 B vf mf vfm T.funs rf) (hmm : ms ≠ mf)
    (hvv : ∀ g, vs.ownBlock = some g → vf.ownBlock ≠ some g) (hkk : ∀ g, vsm.ownBlock = some g → vfm.ownBlock ≠ some g) (hBb : B ≤ b) (hsz : B ≤ w1.heap.size)
    (hpost : ∃ va' rows', w2.heap[b]? = some (.cells ((#[vs, .map (some ms), vsm, vf, .map (some mf), vfm] : Array Value).setIfInBounds 0 va') 164 (0, 0)) ∧ IsNames w2 B va' ms vsm N' rows' ∧
        (∀ g, va'.ownBlock = some g → vs.ownBlock = some g ∨ w1.heap.size ≤ g) ∧ Upd (fun k => k = b ∨ k = ms ∨ vs.ownBlock = some k) w1 w2) :
    IsTab w2 B b ⟨N', T.funs⟩ ∧ Keeps [164, 86] true w1 w2 ∧ Below B w1 w2 := by
  obtain ⟨va', rows', hb3, hN3, hw3, hU⟩ := hpost
  have hKp : Keeps [164, 86] true w1 w2 := hU.keeps (by
    rintro k x (rfl | rfl | hx) hh
    · rw [hb] at hh; cases hh; simp [Touches]
    · obtain ⟨es, clock, hq, _⟩ := hS.stands
      rw [hq] at hh; cases hh; simp [Touches]
    · obtain ⟨c, rfl⟩ := ownsRow_kind hS.row k x hx hh
      simp [Touches])
  have hBl : Below B w1 w2 := hU.below hsz (by
    rintro k hk (rfl | rfl | hx)
    · omega
    · have := hS.mB; omega
    · have := (hS.row.lt k hx).1; omega)
  have same : ∀ k, k < w1.heap.size → k ≠ b → k ≠ ms → vs.ownBlock ≠ some k → w2.heap[k]? = w1.heap[k]? := fun k hk h1 h2 h3 => hU.block k hk (fun e => e.elim h1 (fun e => e.elim h2 h3))
  refine ⟨⟨⟨va', ms, vsm, vf, mf, vfm, rows', rf, hb3, hN3, ⟨hF.hall, ?_, ?_, ?_, ?_, hF.mB, hF.few⟩, hmm, ?_, hkk⟩, hBb⟩, hKp, hBl⟩
  · refine ownsRow_same hF.row (fun g hg => same g (hF.row.lt g hg).2 ?_ ?_ (fun e => hvv g e hg))
    · rintro rfl
      obtain ⟨c, hc⟩ := ownsRow_kind hF.row _ _ hg hb
      cases hc
    · rintro rfl
      obtain ⟨es, clock, hq, _⟩ := hS.stands
      obtain ⟨c, hc⟩ := ownsRow_kind hF.row _ _ hg hq
      cases hc
  · exact fun p hp => (hF.args p hp).keeps hKp (by decide)
  · refine hF.stands.same (same mf hF.stands.lt ?_ (fun e => hmm e.symm) ?_)
    · rintro rfl
      obtain ⟨es, clock, hq, _⟩ := hF.stands
      rw [hq] at hb; cases hb
    · intro e
      obtain ⟨es, clock, hq, _⟩ := hF.stands
      obtain ⟨c, hc⟩ := ownsRow_kind hS.row _ _ e hq
      cases hc
  · exact ownsRow_keeps hF.marks hKp (by decide)
  · intro g hg hf
    rcases hw3 g hg with h4 | h4
    · exact hvv g h4 hf
    · have := (hF.row.lt g hf).2; omega

set_option maxHeartbeats 2000000 in
set_option maxRecDepth 100000 in
theorem declSort_any (B b : Nat) (T : TabD) (name : ByteArray) (w : World) (h : IsTab w B b T) (hBw : B ≤ w.heap.size) :
    Calls Tryz.prog 55 #[.pointer (some ⟨b, 0, none⟩), .string name] w fun e w' => e = .returned (.tuple #[.int .i64 (T.declSort name).2.1, .int .i64 (T.declSort name).2.2]) ∧
      IsTab w' B b (T.declSort name).1 ∧ Keeps [164, 86] true w w' ∧ Below B w w' := by
  have hn := h.none
  have Hn := Lib.hid hn; clear hn
  have hown : (w.alloc (.cells #[.string ⟨#[66, 111, 111, 108]⟩, .string ⟨#[73, 110, 116]⟩] 9)).ownsRow w.heap.size 9 1 (.slice (some ⟨w.heap.size, 0, none⟩) boolInt.length boolInt.length) boolInt.length (boolInt.map Value.string) :=
    World.ownsRow_lit w #[.string ⟨#[66, 111, 111, 108]⟩, .string ⟨#[73, 110, 116]⟩] 2 (Nat.le_refl _) (by decide) rfl
  have hmay := may_any w.heap.size name w.heap.size boolInt _ hown (by decide) (by simp)
  have hb0 : Below w.heap.size w (w.alloc (.cells #[.string ⟨#[66, 111, 111, 108]⟩, .string ⟨#[73, 110, 116]⟩] 9)) := (Below.refl _ w).alloc (Nat.le_refl _) _
  cases hmb : mayB name boolInt with
  | false =>
    rw [hmb] at hmay
    have Hmay := Lib.hid hmay; clear hmay hown
    have e1 : T.declSort name = (T, 0, 50) := by simp [TabD.declSort, hmb]
    rw [e1]
    clear hmb e1
    go_enter Tryz.func55, Tryz.ntmps55
    go_wp2_with (first | (go_at_call 101; refine Hn.out.mono ?_; rintro e w' ⟨rfl, rfl⟩) | (go_at_call 103; refine Hmay.out.mono ?_; rintro e w1 ⟨rfl, hb1⟩))
    go_ret2
    have hb2 := hb0.trans hb1
    exact ⟨rfl, h.keeps (ts := []) (Below.keeps_all hb2 [] false) (by simp) (by simp) (by simp) (by simp), Below.keeps_all hb2 _ _, hb2.mono hBw⟩
  | true =>
    rw [hmb] at hmay
    have Hmay := Lib.hid hmay; clear hmay hown
    have walk : ∀ (N' : NamesD) (r : Nat) (er : Int), T.sorts.add ⟨name, [], 0, false⟩ = (N', r, er) → ∀ (x : Int) (er2 : Int), (er = 0 → x = (r : Int) + 2 ∧ er2 = 0) → (er ≠ 0 → x = 0 ∧ er2 = er) →
        Calls Tryz.prog 55 #[.pointer (some ⟨b, 0, none⟩), .string name] w fun e w' => e = .returned (.tuple #[.int .i64 x, .int .i64 er2]) ∧ IsTab w' B b ⟨N', T.funs⟩ ∧ Keeps [164, 86] true w w' ∧ Below B w w' := by
      intro N' r er hR x er2 hx1 hx2
      have hfew : r ≤ 2000 := by
        obtain ⟨⟨vs, ms, vsm, vf, mf, vfm, rs, rf, hb, hS, hF, hmm, hvv, hkk⟩, hBb⟩ := h
        have := add_le T.sorts ⟨name, [], 0, false⟩
        rw [hR] at this
        exact Nat.le_trans this hS.few
      have HR := Lib.hid hR
      have after : ∀ w1, Below w.heap.size w w1 → Calls Tryz.prog 108 #[.pointer (some ⟨b, 0, none⟩), .agg #[.string name, .slice none 0 0, .int .i64 0, .bool false]] w1 fun e w' =>
          e = .returned (.tuple #[.int .i64 r, .int .i64 er]) ∧ Hid (IsTab w' B b ⟨N', T.funs⟩ ∧ Keeps [164, 86] true w w' ∧ Below B w w') := by
        intro w1 hb2
        have h1 : IsTab w1 B b T := h.keeps (ts := []) (Below.keeps_all hb2 [] false) (by simp) (by simp) (by simp) (by simp)
        obtain ⟨⟨vs, ms, vsm, vf, mf, vfm, rs, rf, hb, hS, hF, hmm, hvv, hkk⟩, hBb⟩ := h1
        have hsz : B ≤ w1.heap.size := by have := hb2.size; omega
        refine (add_any w1 B b 0 _ vs vsm ms T.sorts rs ⟨name, [], 0, false⟩ (.slice none 0 0) hb rfl rfl hBb hsz hS (intsAt_nil _ _ _ _)).mono ?_
        rintro e w2 ⟨rfl, hpost⟩
        rw [HR.out] at hpost ⊢
        obtain ⟨f1, f2, f3⟩ := tab_added hb hS hF hmm hvv hkk hBb hsz hpost
        exact ⟨rfl, f1, (Below.keeps_all hb2 _ _).trans f2, (hb2.mono hBw).trans f3⟩
      have After := Lib.hid after
      clear after hR
      by_cases her : er = 0
      · subst her
        obtain ⟨rfl, rfl⟩ := hx1 rfl
        clear hx1 hx2
        go_enter Tryz.func55, Tryz.ntmps55
        go_wp2_with (first | (go_at_call 101; refine Hn.out.mono ?_; rintro e w' ⟨rfl, rfl⟩) | (go_at_call 103; refine Hmay.out.mono ?_; rintro e w1 ⟨rfl, hb1⟩; have hb2 := hb0.trans hb1; clear hb1) | (go_at_call 108; refine (After.out _ (by assumption)).mono ?_; rintro e w2 ⟨rfl, hfin⟩))
        go_ret2
        exact ⟨rfl, hfin⟩
      · have her2 : (er == 0) = false := by simpa using her
        obtain ⟨rfl, rfl⟩ := hx2 her
        clear hx1 hx2
        go_enter Tryz.func55, Tryz.ntmps55
        go_wp2_with (first | (go_at_call 101; refine Hn.out.mono ?_; rintro e w' ⟨rfl, rfl⟩) | (go_at_call 103; refine Hmay.out.mono ?_; rintro e w1 ⟨rfl, hb1⟩; have hb2 := hb0.trans hb1; clear hb1) | (go_at_call 108; refine (After.out _ (by assumption)).mono ?_; rintro e w2 ⟨rfl, hfin⟩))
        go_ret2
        exact ⟨rfl, hfin⟩
    cases hR : T.sorts.add ⟨name, [], 0, false⟩ with
    | mk N' q =>
      obtain ⟨r, er⟩ := q
      by_cases her : er = 0
      · have e1 : T.declSort name = (⟨N', T.funs⟩, (r : Int) + 2, 0) := by simp [TabD.declSort, hmb, hR, her]
        rw [e1]
        exact walk N' r er hR _ _ (fun _ => ⟨rfl, rfl⟩) (fun h => absurd her h)
      · have e1 : T.declSort name = (⟨N', T.funs⟩, 0, er) := by simp [TabD.declSort, hmb, hR, her]
        rw [e1]
        exact walk N' r er hR _ _ (fun h => absurd h her) (fun _ => ⟨rfl, rfl⟩)
end Go.Proofs.YtjdgfdpbiidldaaGreatDoor
