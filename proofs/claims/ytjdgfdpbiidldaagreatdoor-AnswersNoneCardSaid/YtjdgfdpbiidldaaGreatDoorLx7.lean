/-
  Layer 3 (lex): a token that begins with no mark. Conditions: the text's own size.
-/
import Derived.Test.YtjdgfdpbiidldaaGreatDoorLx6
import Derived.Laws.ResultCell
namespace Go.Proofs.YtjdgfdpbiidldaaGreatDoor
open Go.RowKit

theorem size34 : (Tryz.prog.info? 34).map (·.size) = some 3 := by kernel_rfl

theorem IsRd.upd {S : Nat → Prop} {w w' : World} {R g o cap : Nat} {l : List UInt8} {n : Int} (h : IsRd w R g o cap l n) (hU : Upd S w w') (hR : ¬ S R) (hg : g < w.heap.size → ¬ S g) : IsRd w' R g o cap l n := by
  have hRl : R < w.heap.size := (Array.getElem?_eq_some_iff.1 h.heap).1
  refine ⟨(hU.block R hRl hR).trans h.heap, fun j x hx => ?_, h.other, h.few⟩
  have h1 := h.bytes j x hx
  have hgl : g < w.heap.size := by
    apply Classical.byContradiction
    intro hc
    have : w.heap[g]? = none := Array.getElem?_eq_none (by omega)
    unfold World.cell? at h1
    simp [this] at h1
  rw [← h1]
  unfold World.cell?
  simp only []
  rw [hU.block g hgl (hg hgl)]

/-- what a token that begins with a letter, or with what begins none, is: its kind, and the error -/
def wordKind (s : ByteArray) : Int × Int :=
  if s.toList = [] then (0, 30) else if plainB s.toList then (3, 0) else if numB s then (4, 0)
  else if (cutDot s).2.2 && numB (cutDot s).1 && allB 2 (cutDot s).2.1.toList then (7, 0) else (0, 5)

/-- within 'token': the token as it lies, the reader behind it -/
structure TokSt (w : World) (R g o cap : Nat) (l : List UInt8) (m : Int) (T : Nat) (k : Int) (X : ByteArray) (n : Nat) (w' : World) : Prop where
  tok : w'.heap[T]? = some (.cells #[.int .u8 k, .string X, .int .i64 n] 34 (0, 0))
  rd : IsRd w' R g o cap l m
  upd : Upd (fun b => b = R) w w'
  sep : T ≠ R ∧ T ≠ g ∧ w.heap.size ≤ T

theorem TokSt.all {w : World} {R g o cap : Nat} {l : List UInt8} {m : Int} {T : Nat} {k : Int} {X : ByteArray} {n : Nat} {w1 w2 : World} (h : TokSt w R g o cap l m T k X n w1) (hb : Below w1.heap.size w1 w2) : TokSt w R g o cap l m T k X n w2 :=
  ⟨(hb.block T (Array.getElem?_eq_some_iff.1 h.tok).1).trans h.tok, h.rd.upd (Upd.of_all hb (fun _ => False)) (fun x => x) (fun _ x => x), h.upd.trans (Upd.of_all hb _), h.sep⟩
theorem TokSt.drewN {w : World} {R g o cap : Nat} {l : List UInt8} {m : Int} {T : Nat} {k : Int} {X : ByteArray} {n : Nat} {w1 : World} (h : TokSt w R g o cap l m T k X n w1) (q : Nat) : TokSt w R g o cap l m T k X n (w1.drewN q) := ⟨h.tok, h.rd.drewN q, h.upd.drewN q, h.sep⟩
theorem TokSt.set {w : World} {R g o cap : Nat} {l : List UInt8} {m : Int} {T : Nat} {k : Int} {X : ByteArray} {n : Nat} {w1 : World} (h : TokSt w R g o cap l m T k X n w1) (c : Nat) (v : Value) (k' : Int) (X' : ByteArray) (n' : Nat)
    (hc : (#[.int .u8 k, .string X, .int .i64 n] : Array Value).setIfInBounds c v = #[.int .u8 k', .string X', .int .i64 n']) : TokSt w R g o cap l m T k' X' n' (w1.setCell ⟨T, c, none⟩ v) := by
  obtain ⟨h1, h2, h3, h4, h5, h6⟩ := h
  refine ⟨?_, ?_, h3.setCell (fun hx => by simp at hx; omega) v, h4, h5, h6⟩
  · rw [heap_set_at h1, hc]
  · exact h2.upd (Upd.setCell (Upd.refl (fun b => b = T) w1) (p := ⟨T, c, none⟩) (fun _ => rfl) v) (fun e => h4 e.symm) (fun _ e => h5 e.symm)
theorem TokSt.c0 {w : World} {R g o cap : Nat} {l : List UInt8} {m : Int} {T : Nat} {k : Int} {X : ByteArray} {n : Nat} {w1 : World} (h : TokSt w R g o cap l m T k X n w1) : w1.cell? ⟨T, 0, none⟩ = some (.int .u8 k) := by rw [Lib.cell_of_heap h.tok]; rfl
theorem TokSt.c1 {w : World} {R g o cap : Nat} {l : List UInt8} {m : Int} {T : Nat} {k : Int} {X : ByteArray} {n : Nat} {w1 : World} (h : TokSt w R g o cap l m T k X n w1) : w1.cell? ⟨T, 1, none⟩ = some (.string X) := by rw [Lib.cell_of_heap h.tok]; rfl
theorem TokSt.c2 {w : World} {R g o cap : Nat} {l : List UInt8} {m : Int} {T : Nat} {k : Int} {X : ByteArray} {n : Nat} {w1 : World} (h : TokSt w R g o cap l m T k X n w1) : w1.cell? ⟨T, 2, none⟩ = some (.int .i64 n) := by rw [Lib.cell_of_heap h.tok]; rfl
theorem TokSt.fz {w : World} {R g o cap : Nat} {l : List UInt8} {m : Int} {T : Nat} {k : Int} {X : ByteArray} {n : Nat} {w1 : World} (h : TokSt w R g o cap l m T k X n w1) (c : Nat) : w1.frozen? ⟨T, c, none⟩ = false := Lib.frozen_of_heap h.tok c

theorem tok_ret {w : World} {R g o cap : Nat} {l : List UInt8} {m : Int} {T : Nat} {k : Int} {X : ByteArray} {n : Nat} {w1 : World} (h : TokSt w R g o cap l m T k X n w1) (tmps : Array Value) (h2 : tmps.getD 2 undef = .pointer (some ⟨T, 0, none⟩)) :
    (results Tryz.f257 tmps).run Tryz.prog w1 = .ok (.tuple #[.agg #[.int .u8 k, .string X, .int .i64 n], tmps.getD 3 undef]) w1 := by
  have c0 := h.c0
  have c1 := h.c1
  have c2 := h.c2
  rw [results_cell_tmp rfl, h2]
  go_simp

set_option maxHeartbeats 2000000 in
set_option maxRecDepth 100000 in
theorem token_word (R g o cap : Nat) (l : List UInt8) (n : Nat) (c : UInt8) (w : World) (h : IsRd w R g o cap l n) (hc : l[n]? = some c) (hl : l.length ≤ 9223372036854775806)
    (h40 : ((c.toNat : Int) == 40) = false) (h41 : ((c.toNat : Int) == 41) = false) (h124 : ((c.toNat : Int) == 124) = false) (h34 : ((c.toNat : Int) == 34) = false) (h58 : ((c.toNat : Int) == 58) = false) (h35 : ((c.toNat : Int) == 35) = false) :
    Calls Tryz.prog 257 #[.pointer (some ⟨R, 0, none⟩)] w fun e w' => e = .returned (.tuple #[.agg #[.int .u8 (wordKind ⟨(wordAt l n).toArray⟩).1, .string ⟨(wordAt l n).toArray⟩, .int .i64 n], .int .i64 (wordKind ⟨(wordAt l n).toArray⟩).2]) ∧
      IsRd w' R g o cap l (n + (wordAt l n).length : Nat) ∧ Upd (fun k => k = R) w w' := by
  have hnl : n < l.length := (List.getElem?_eq_some_iff.1 hc).1
  have hRl : R < w.heap.size := (Array.getElem?_eq_some_iff.1 h.heap).1
  have hle : l.length ≤ 9223372036854775806 := hl
  have c256 := h.c256
  have c257 := h.c257
  have cb := h.bytes n c hc
  have hword : ∀ v nq, Calls Tryz.prog 334 #[.pointer (some ⟨R, 0, none⟩)] ((w.alloc (.cells #[.int .u8 0, .string ⟨#[]⟩, v] 34)).drewN nq) fun e w' => e = .returned (.string ⟨(wordAt l n).toArray⟩) ∧ w'.heap[w.heap.size]? = some (.cells #[.int .u8 0, .string ⟨#[]⟩, v] 34 (0, 0)) ∧ IsRd w' R g o cap l (n + (wordAt l n).length : Nat) ∧ Upd (fun k => k = R) w w' := by
    intro v nq
    have h1 : IsRd ((w.alloc (.cells #[.int .u8 0, .string ⟨#[]⟩, v] 34)).drewN nq) R g o cap l n := (h.upd (Upd.alloc (Upd.refl (fun _ => False) w) _) (fun x => x) (fun _ x => x)).drewN nq
    refine (word_any R g o cap l n _ h1 (by omega) hl).mono ?_
    rintro e w' ⟨rfl, h2, h3⟩
    refine ⟨rfl, ?_, h2, ((Upd.alloc (Upd.refl _ w) _).drewN nq).trans h3⟩
    rw [h3.block _ (by simp) (by omega)]
    exact heap_alloc_new w _
  have H := Lib.hid h
  have Hle := Lib.hid hle
  clear h hl hle
  go_enter Tryz.func257, Tryz.ntmps257
  go_wp2
  obtain ⟨W, hW⟩ : ∃ W, W = w.alloc (Obj.cells #[Value.int IntKind.u8 0, Value.string { data := #[] }, Value.int IntKind.i64 n] 34) := ⟨_, rfl⟩
  have hrd := H.out.upd (Upd.alloc (Upd.refl (fun _ => False) w) (Obj.cells #[Value.int IntKind.u8 0, Value.string { data := #[] }, Value.int IntKind.i64 n] 34)) (fun x => x) (fun _ x => x)
  have hT := heap_alloc_new w (Obj.cells #[Value.int IntKind.u8 0, Value.string { data := #[] }, Value.int IntKind.i64 n] 34)
  have hword := hword (.int .i64 n)
  rw [← hW] at hrd hT hword ⊢
  clear c256 c257 cb
  have c256 := hrd.c256
  have c257 := hrd.c257
  have cb := hrd.bytes n c hc
  have Hword := Lib.hid hword
  clear hword hW
  go_quiet (fail)
  go_wp2_with fail
  refine (Hword.out nq).mono ?_
  rintro e w1 ⟨rfl, hT1, hrd1, hU1⟩
  obtain ⟨T, hTe⟩ : ∃ T, T = w.heap.size := ⟨_, rfl⟩
  have hTR : T ≠ R := by omega
  have hgl : g < T := by
    apply Classical.byContradiction
    intro hx
    have : w.heap[g]? = none := Array.getElem?_eq_none (by omega)
    have h1 := H.out.bytes n c hc
    unfold World.cell? at h1
    simp [this] at h1
  rw [← hTe] at hT1 ⊢
  have d1 : w1.cell? ⟨T, 1, none⟩ = some (.string ⟨#[]⟩) := by rw [Lib.cell_of_heap hT1]; rfl
  have d2 : w1.frozen? ⟨T, 1, none⟩ = false := Lib.frozen_of_heap hT1 1
  obtain ⟨X, hX⟩ : ∃ X : ByteArray, X = ⟨(wordAt l n).toArray⟩ := ⟨_, rfl⟩
  have hXs : X.size ≤ 9223372036854775806 := by
    have : X.size ≤ l.length := by
      rw [hX]
      show (wordAt l n).toArray.size ≤ _
      rw [List.size_toArray]
      refine Nat.le_trans (List.takeWhile_sublist _).length_le (by simp)
    have := Hle.out
    omega
  have HXs := Lib.hid hXs
  rw [← hX]
  clear hXs hT hword hrd c256 c257 cb
  have HTe := Lib.hid hTe
  have HX := Lib.hid hX
  clear Hword hTe hX
  go_wp2_with fail
  have hQ0 : TokSt w R g o cap l (n + (wordAt l n).length : Nat) T 0 ⟨#[]⟩ n w1 := ⟨hT1, hrd1, hU1, hTR, by omega, by rw [HTe.out]; exact Nat.le_refl _⟩
  have hQ := hQ0.set 1 (.string X) 0 X n rfl
  obtain ⟨W2, hW2⟩ : ∃ W2, W2 = w1.setCell ⟨T, 1, none⟩ (.string X) := ⟨_, rfl⟩
  rw [← hW2] at hQ ⊢
  clear hW2 hQ0 d1 d2 hT1 hrd1 hU1
  refine (cut_dot X W2 HXs.out).mono ?_
  rintro e w2 ⟨rfl, m1, rfl⟩
  have hQ1 := hQ.drewN m1
  obtain ⟨W3, hW3⟩ : ∃ W3, W3 = W2.drewN m1 := ⟨_, rfl⟩
  rw [← hW3] at hQ1 ⊢
  clear hW3 hQ
  by_cases hX0 : X.toList = []
  · have c0 := hQ1.c0
    have c1 := hQ1.c1
    have c2 := hQ1.c2
    have f0 := hQ1.fz 0
    have f1 := hQ1.fz 1
    have f2 := hQ1.fz 2
    go_wp2
    refine bodyPost_ret (tok_ret (((hQ1.set 0 _ 0 X n rfl).set 1 _ 0 X n rfl).set 2 _ 0 X n rfl) _ rfl) rfl ⟨?_, (((hQ1.set 0 _ 0 X n rfl).set 1 _ 0 X n rfl).set 2 _ 0 X n rfl).rd, (((hQ1.set 0 _ 0 X n rfl).set 1 _ 0 X n rfl).set 2 _ 0 X n rfl).upd⟩
    rw [← HX.out, wordKind, if_pos hX0]
    rfl
  have cut1 : (cutDot X).1.size ≤ 9223372036854775806 ∧ (cutDot X).2.1.size ≤ 9223372036854775806 := by
    have := HXs.out
    unfold cutDot
    have e0 : (⟨#[]⟩ : ByteArray).size = 0 := rfl
    split <;> simp [ByteArray.size_extract, e0] <;> omega
  have Cut1 := Lib.hid cut1
  clear cut1
  have c1 := hQ1.c1
  have hXe : X.toList.isEmpty = false := by simpa using hX0
  go_wp2_with fail
  refine (plain_any X W3 HXs.out).mono ?_
  rintro e w4 ⟨rfl, hb4⟩
  have hQ2 := hQ1.all hb4
  clear c1 hb4 hQ1
  cases hP : plainB X.toList with
  | true =>
    have c0 := hQ2.c0
    have c1 := hQ2.c1
    have c2 := hQ2.c2
    have f0 := hQ2.fz 0
    have f1 := hQ2.fz 1
    have f2 := hQ2.fz 2
    go_wp2
    refine bodyPost_ret (tok_ret ((((hQ2.set 0 _ 3 X n rfl).set 0 _ 3 X n rfl).set 1 _ 3 X n rfl).set 2 _ 3 X n rfl) _ rfl) rfl ⟨?_, ((((hQ2.set 0 _ 3 X n rfl).set 0 _ 3 X n rfl).set 1 _ 3 X n rfl).set 2 _ 3 X n rfl).rd, ((((hQ2.set 0 _ 3 X n rfl).set 0 _ 3 X n rfl).set 1 _ 3 X n rfl).set 2 _ 3 X n rfl).upd⟩
    rw [← HX.out, wordKind, if_neg hX0, if_pos hP]
    rfl
  | false =>
    have c1 := hQ2.c1
    go_wp2_with fail
    refine (numeral_any R X w4 HXs.out hQ2.rd.cls).mono ?_
    rintro e w5 ⟨rfl, m2, rfl⟩
    have hQ3 := hQ2.drewN m2
    obtain ⟨W5, hW5⟩ : ∃ W5, W5 = w4.drewN m2 := ⟨_, rfl⟩
    rw [← hW5] at hQ3 ⊢
    clear hW5 hQ2 c1
    cases hN : numB X with
    | true =>
      have c0 := hQ3.c0
      have c1 := hQ3.c1
      have c2 := hQ3.c2
      have f0 := hQ3.fz 0
      have f1 := hQ3.fz 1
      have f2 := hQ3.fz 2
      go_wp2
      refine bodyPost_ret (tok_ret ((((hQ3.set 0 _ 4 X n rfl).set 0 _ 4 X n rfl).set 1 _ 4 X n rfl).set 2 _ 4 X n rfl) _ rfl) rfl ⟨?_, ((((hQ3.set 0 _ 4 X n rfl).set 0 _ 4 X n rfl).set 1 _ 4 X n rfl).set 2 _ 4 X n rfl).rd, ((((hQ3.set 0 _ 4 X n rfl).set 0 _ 4 X n rfl).set 1 _ 4 X n rfl).set 2 _ 4 X n rfl).upd⟩
      rw [← HX.out, wordKind, if_neg hX0, if_neg (by simp [hP]), if_pos hN]
      rfl
    | false =>
      obtain ⟨b1, hb1⟩ : ∃ b, b = (cutDot X).2.2 := ⟨_, rfl⟩
      rw [← hb1]
      cases b1 with
      | false =>
        have c0 := hQ3.c0
        have c1 := hQ3.c1
        have c2 := hQ3.c2
        have f0 := hQ3.fz 0
        have f1 := hQ3.fz 1
        have f2 := hQ3.fz 2
        have Hb1 := Lib.hid hb1
        clear hb1
        go_wp2
        refine bodyPost_ret (tok_ret (((hQ3.set 0 _ 0 X n rfl).set 1 _ 0 X n rfl).set 2 _ 0 X n rfl) _ rfl) rfl ⟨?_, (((hQ3.set 0 _ 0 X n rfl).set 1 _ 0 X n rfl).set 2 _ 0 X n rfl).rd, (((hQ3.set 0 _ 0 X n rfl).set 1 _ 0 X n rfl).set 2 _ 0 X n rfl).upd⟩
        rw [← HX.out, wordKind, if_neg hX0, if_neg (by simp [hP]), if_neg (by simp [hN]), if_neg (by simp [← Hb1.out])]
        rfl
      | true =>
        have Hb1 := Lib.hid hb1
        clear hb1
        go_wp2_with fail
        refine (numeral_any R _ W5 Cut1.out.1 hQ3.rd.cls).mono ?_
        rintro e w6 ⟨rfl, m3, rfl⟩
        have hQ4 := hQ3.drewN m3
        obtain ⟨W6, hW6⟩ : ∃ W6, W6 = W5.drewN m3 := ⟨_, rfl⟩
        rw [← hW6] at hQ4 ⊢
        clear hW6 hQ3
        cases hN1 : numB (cutDot X).1 with
        | false =>
          have c0 := hQ4.c0
          have c1 := hQ4.c1
          have c2 := hQ4.c2
          have f0 := hQ4.fz 0
          have f1 := hQ4.fz 1
          have f2 := hQ4.fz 2
          go_wp2
          refine bodyPost_ret (tok_ret (((hQ4.set 0 _ 0 X n rfl).set 1 _ 0 X n rfl).set 2 _ 0 X n rfl) _ rfl) rfl ⟨?_, (((hQ4.set 0 _ 0 X n rfl).set 1 _ 0 X n rfl).set 2 _ 0 X n rfl).rd, (((hQ4.set 0 _ 0 X n rfl).set 1 _ 0 X n rfl).set 2 _ 0 X n rfl).upd⟩
          rw [← HX.out, wordKind, if_neg hX0, if_neg (by simp [hP]), if_neg (by simp [hN]), if_neg (by simp [hN1])]
          rfl
        | true =>
          go_wp2_with fail
          refine (all_any R _ 2 W6 Cut1.out.2 hQ4.rd.cls).mono ?_
          rintro e w7 ⟨rfl, m4, rfl⟩
          have hQ5 := hQ4.drewN m4
          obtain ⟨W7, hW7⟩ : ∃ W7, W7 = W6.drewN m4 := ⟨_, rfl⟩
          rw [← hW7] at hQ5 ⊢
          clear hW7 hQ4
          have c0 := hQ5.c0
          have c1 := hQ5.c1
          have c2 := hQ5.c2
          have f0 := hQ5.fz 0
          have f1 := hQ5.fz 1
          have f2 := hQ5.fz 2
          cases hA : allB 2 (cutDot X).2.1.toList with
          | false =>
            go_wp2
            refine bodyPost_ret (tok_ret (((hQ5.set 0 _ 0 X n rfl).set 1 _ 0 X n rfl).set 2 _ 0 X n rfl) _ rfl) rfl ⟨?_, (((hQ5.set 0 _ 0 X n rfl).set 1 _ 0 X n rfl).set 2 _ 0 X n rfl).rd, (((hQ5.set 0 _ 0 X n rfl).set 1 _ 0 X n rfl).set 2 _ 0 X n rfl).upd⟩
            rw [← HX.out, wordKind, if_neg hX0, if_neg (by simp [hP]), if_neg (by simp [hN]), if_neg (by simp [hA])]
            rfl
          | true =>
            go_wp2
            refine bodyPost_ret (tok_ret ((((hQ5.set 0 _ 7 X n rfl).set 0 _ 7 X n rfl).set 1 _ 7 X n rfl).set 2 _ 7 X n rfl) _ rfl) rfl ⟨?_, ((((hQ5.set 0 _ 7 X n rfl).set 0 _ 7 X n rfl).set 1 _ 7 X n rfl).set 2 _ 7 X n rfl).rd, ((((hQ5.set 0 _ 7 X n rfl).set 0 _ 7 X n rfl).set 1 _ 7 X n rfl).set 2 _ 7 X n rfl).upd⟩
            rw [← HX.out, wordKind, if_neg hX0, if_neg (by simp [hP]), if_neg (by simp [hN]), if_pos (by simp [← Hb1.out, hN1, hA])]
            rfl
end Go.Proofs.YtjdgfdpbiidldaaGreatDoor
