/-
  Layer 3 (lex): a token that begins with no mark. Conditions: the text's own size.
  Layer 3 (lex): Tokens of a plain word. Conditions: the text's own size; the bytes lie where they are said to lie.
  The document's lexer (juristref03): Tokens of bytes that are brackets, blanks and words. Conditions: sizes; the bytes lie where they are said to lie.
  The document's trees (juristref04): end, most. Conditions: sizes; the tokens lie where they are said to lie.
  Trees as data, and as they lie; which tokens spell a tree. No condition.
-/
import Derived.Test.YtjdgfdpbiidldaaGreatDoorRdM5
import Derived.Laws.ResultCell
import Derived.Great.Ranges
import Derived.Test.YtjdgfdpbiidldaaGreatDoorRdM4
namespace Go.Proofs.YtjdgfdpbiidldaaGreatDoor
open Go.RowKit

theorem size34 : (Tryz.prog.info? 34).map (·.size) = some 3 := by kernel_rfl

theorem IsRd.upd {S : Nat → Prop} {w w' : World} {R g o cap : Nat} {l : List UInt8} {n : Int} (h : IsRd w R g o cap l n) (hU : Upd S w w') (hR : ¬ S R) (hg : g < w.heap.size → ¬ S g) : IsRd w' R g o cap l n := by
  have hRl : R < w.heap.size := (Array.getElem?_eq_some_iff.1 h.heap).1
  refine ⟨(hU.block R hRl hR).trans h.heap, fun j x hx => ?_, h.other, h.few⟩
  have h1 := h.bytes j x hx
  have hgl : g < w.heap.size := by
    apply Classical.byContradiction
    intro hc
    have : w.heap[g]? = none := Array.getElem?_eq_none (by omega)
    unfold World.cell? at h1
    simp [this] at h1
  rw [← h1]
  unfold World.cell?
  simp only []
  rw [hU.block g hgl (hg hgl)]

/-- what a token that begins with a letter, or with what begins none, is: its kind, and the error -/
def wordKind (s : ByteArray) : Int × Int :=
  if s.toList = [] then (0, 30) else if plainB s.toList then (3, 0) else if numB s then (4, 0)
  else if (cutDot s).2.2 && numB (cutDot s).1 && allB 2 (cutDot s).2.1.toList then (7, 0) else (0, 5)

/-- within 'token': the token as it lies, the reader behind it -/
structure TokSt (w : World) (R g o cap : Nat) (l : List UInt8) (m : Int) (T : Nat) (k : Int) (X : ByteArray) (n : Nat) (w' : World) : Prop where
  tok : w'.heap[T]? = some (.cells #[.int .u8 k, .string X, .int .i64 n] 34 (0, 0))
  rd : IsRd w' R g o cap l m
  upd : Upd (fun b => b = R) w w'
  sep : T ≠ R ∧ T ≠ g ∧ w.heap.size ≤ T

theorem TokSt.all {w : World} {R g o cap : Nat} {l : List UInt8} {m : Int} {T : Nat} {k : Int} {X : ByteArray} {n : Nat} {w1 w2 : World} (h : TokSt w R g o cap l m T k X n w1) (hb : Below w1.heap.size w1 w2) : TokSt w R g o cap l m T k X n w2 :=
  ⟨(hb.block T (Array.getElem?_eq_some_iff.1 h.tok).1).trans h.tok, h.rd.upd (Upd.of_all hb (fun _ => False)) (fun x => x) (fun _ x => x), h.upd.trans (Upd.of_all hb _), h.sep⟩
theorem TokSt.drewN {w : World} {R g o cap : Nat} {l : List UInt8} {m : Int} {T : Nat} {k : Int} {X : ByteArray} {n : Nat} {w1 : World} (h : TokSt w R g o cap l m T k X n w1) (q : Nat) : TokSt w R g o cap l m T k X n (w1.drewN q) := ⟨h.tok, h.rd.drewN q, h.upd.drewN q, h.sep⟩
theorem TokSt.set {w : World} {R g o cap : Nat} {l : List UInt8} {m : Int} {T : Nat} {k : Int} {X : ByteArray} {n : Nat} {w1 : World} (h : TokSt w R g o cap l m T k X n w1) (c : Nat) (v : Value) (k' : Int) (X' : ByteArray) (n' : Nat)
    (hc : (#[.int .u8 k, .string X, .int .i64 n] : Array Value).setIfInBounds c v = #[.int .u8 k', .string X', .int .i64 n']) : TokSt w R g o cap l m T k' X' n' (w1.setCell ⟨T, c, none⟩ v) := by
  obtain ⟨h1, h2, h3, h4, h5, h6⟩ := h
  refine ⟨?_, ?_, h3.setCell (fun hx => by simp at hx; omega) v, h4, h5, h6⟩
  · rw [heap_set_at h1, hc]
  · exact h2.upd (Upd.setCell (Upd.refl (fun b => b = T) w1) (p := ⟨T, c, none⟩) (fun _ => rfl) v) (fun e => h4 e.symm) (fun _ e => h5 e.symm)
theorem TokSt.c0 {w : World} {R g o cap : Nat} {l : List UInt8} {m : Int} {T : Nat} {k : Int} {X : ByteArray} {n : Nat} {w1 : World} (h : TokSt w R g o cap l m T k X n w1) : w1.cell? ⟨T, 0, none⟩ = some (.int .u8 k) := by rw [Lib.cell_of_heap h.tok]; rfl
theorem TokSt.c1 {w : World} {R g o cap : Nat} {l : List UInt8} {m : Int} {T : Nat} {k : Int} {X : ByteArray} {n : Nat} {w1 : World} (h : TokSt w R g o cap l m T k X n w1) : w1.cell? ⟨T, 1, none⟩ = some (.string X) := by rw [Lib.cell_of_heap h.tok]; rfl
theorem TokSt.c2 {w : World} {R g o cap : Nat} {l : List UInt8} {m : Int} {T : Nat} {k : Int} {X : ByteArray} {n : Nat} {w1 : World} (h : TokSt w R g o cap l m T k X n w1) : w1.cell? ⟨T, 2, none⟩ = some (.int .i64 n) := by rw [Lib.cell_of_heap h.tok]; rfl
theorem TokSt.fz {w : World} {R g o cap : Nat} {l : List UInt8} {m : Int} {T : Nat} {k : Int} {X : ByteArray} {n : Nat} {w1 : World} (h : TokSt w R g o cap l m T k X n w1) (c : Nat) : w1.frozen? ⟨T, c, none⟩ = false := Lib.frozen_of_heap h.tok c

theorem tok_ret {w : World} {R g o cap : Nat} {l : List UInt8} {m : Int} {T : Nat} {k : Int} {X : ByteArray} {n : Nat} {w1 : World} (h : TokSt w R g o cap l m T k X n w1) (tmps : Array Value) (h2 : tmps.getD 2 undef = .pointer (some ⟨T, 0, none⟩)) :
    (results Tryz.f257 tmps).run Tryz.prog w1 = .ok (.tuple #[.agg #[.int .u8 k, .string X, .int .i64 n], tmps.getD 3 undef]) w1 := by
  have c0 := h.c0
  have c1 := h.c1
  have c2 := h.c2
  rw [results_cell_tmp rfl, h2]
  go_simp

set_option maxHeartbeats 2000000 in
set_option maxRecDepth 100000 in
theorem token_word (R g o cap : Nat) (l : List UInt8) (n : Nat) (c : UInt8) (w : World) (h : IsRd w R g o cap l n) (hc : l[n]? = some c) (hl : l.length ≤ 9223372036854775806)
    (h40 : ((c.toNat : Int) == 40) = false) (h41 : ((c.toNat : Int) == 41) = false) (h124 : ((c.toNat : Int) == 124) = false) (h34 : ((c.toNat : Int) == 34) = false) (h58 : ((c.toNat : Int) == 58) = false) (h35 : ((c.toNat : Int) == 35) = false) :
    Calls Tryz.prog 257 #[.pointer (some ⟨R, 0, none⟩)] w fun e w' => e = .returned (.tuple #[.agg #[.int .u8 (wordKind ⟨(wordAt l n).toArray⟩).1, .string ⟨(wordAt l n).toArray⟩, .int .i64 n], .int .i64 (wordKind ⟨(wordAt l n).toArray⟩).2]) ∧
      IsRd w' R g o cap l (n + (wordAt l n).length : Nat) ∧ Upd (fun k => k = R) w w' := by
  have hnl : n < l.length := (List.getElem?_eq_some_iff.1 hc).1
  have hRl : R < w.heap.size := (Array.getElem?_eq_some_iff.1 h.heap).1
  have hle : l.length ≤ 9223372036854775806 := hl
  have c256 := h.c256
  have c257 := h.c257
  have cb := h.bytes n c hc
  have hword : ∀ v nq, Calls Tryz.prog 334 #[.pointer (some ⟨R, 0, none⟩)] ((w.alloc (.cells #[.int .u8 0, .string ⟨#[]⟩, v] 34)).drewN nq) fun e w' => e = .returned (.string ⟨(wordAt l n).toArray⟩) ∧ w'.heap[w.heap.size]? = some (.cells #[.int .u8 0, .string ⟨#[]⟩, v] 34 (0, 0)) ∧ IsRd w' R g o cap l (n + (wordAt l n).length : Nat) ∧ Upd (fun k => k = R) w w' := by
    intro v nq
    have h1 : IsRd ((w.alloc (.cells #[.int .u8 0, .string ⟨#[]⟩, v] 34)).drewN nq) R g o cap l n := (h.upd (Upd.alloc (Upd.refl (fun _ => False) w) _) (fun x => x) (fun _ x => x)).drewN nq
    refine (word_any R g o cap l n _ h1 (by omega) hl).mono ?_
    rintro e w' ⟨rfl, h2, h3⟩
    refine ⟨rfl, ?_, h2, ((Upd.alloc (Upd.refl _ w) _).drewN nq).trans h3⟩
    rw [h3.block _ (by simp) (by omega)]
    exact heap_alloc_new w _
  have H := Lib.hid h
  have Hle := Lib.hid hle
  clear h hl hle
  go_enter Tryz.func257, Tryz.ntmps257
  go_wp2
  obtain ⟨W, hW⟩ : ∃ W, W = w.alloc (Obj.cells #[Value.int IntKind.u8 0, Value.string { data := #[] }, Value.int IntKind.i64 n] 34) := ⟨_, rfl⟩
  have hrd := H.out.upd (Upd.alloc (Upd.refl (fun _ => False) w) (Obj.cells #[Value.int IntKind.u8 0, Value.string { data := #[] }, Value.int IntKind.i64 n] 34)) (fun x => x) (fun _ x => x)
  have hT := heap_alloc_new w (Obj.cells #[Value.int IntKind.u8 0, Value.string { data := #[] }, Value.int IntKind.i64 n] 34)
  have hword := hword (.int .i64 n)
  rw [← hW] at hrd hT hword ⊢
  clear c256 c257 cb
  have c256 := hrd.c256
  have c257 := hrd.c257
  have cb := hrd.bytes n c hc
  have Hword := Lib.hid hword
  clear hword hW
  go_quiet (fail)
  go_wp2_with fail
  refine (Hword.out nq).mono ?_
  rintro e w1 ⟨rfl, hT1, hrd1, hU1⟩
  obtain ⟨T, hTe⟩ : ∃ T, T = w.heap.size := ⟨_, rfl⟩
  have hTR : T ≠ R := by omega
  have hgl : g < T := by
    apply Classical.byContradiction
    intro hx
    have : w.heap[g]? = none := Array.getElem?_eq_none (by omega)
    have h1 := H.out.bytes n c hc
    unfold World.cell? at h1
    simp [this] at h1
  rw [← hTe] at hT1 ⊢
  have d1 : w1.cell? ⟨T, 1, none⟩ = some (.string ⟨#[]⟩) := by rw [Lib.cell_of_heap hT1]; rfl
  have d2 : w1.frozen? ⟨T, 1, none⟩ = false := Lib.frozen_of_heap hT1 1
  obtain ⟨X, hX⟩ : ∃ X : ByteArray, X = ⟨(wordAt l n).toArray⟩ := ⟨_, rfl⟩
  have hXs : X.size ≤ 9223372036854775806 := by
    have : X.size ≤ l.length := by
      rw [hX]
      show (wordAt l n).toArray.size ≤ _
      rw [List.size_toArray]
      refine Nat.le_trans (List.takeWhile_sublist _).length_le (by simp)
    have := Hle.out
    omega
  have HXs := Lib.hid hXs
  rw [← hX]
  clear hXs hT hword hrd c256 c257 cb
  have HTe := Lib.hid hTe
  have HX := Lib.hid hX
  clear Hword hTe hX
  go_wp2_with fail
  have hQ0 : TokSt w R g o cap l (n + (wordAt l n).length : Nat) T 0 ⟨#[]⟩ n w1 := ⟨hT1, hrd1, hU1, hTR, by omega, by rw [HTe.out]; exact Nat.le_refl _⟩
  have hQ := hQ0.set 1 (.string X) 0 X n rfl
  obtain ⟨W2, hW2⟩ : ∃ W2, W2 = w1.setCell ⟨T, 1, none⟩ (.string X) := ⟨_, rfl⟩
  rw [← hW2] at hQ ⊢
  clear hW2 hQ0 d1 d2 hT1 hrd1 hU1
  refine (cut_dot X W2 HXs.out).mono ?_
  rintro e w2 ⟨rfl, m1, rfl⟩
  have hQ1 := hQ.drewN m1
  obtain ⟨W3, hW3⟩ : ∃ W3, W3 = W2.drewN m1 := ⟨_, rfl⟩
  rw [← hW3] at hQ1 ⊢
  clear hW3 hQ
  by_cases hX0 : X.toList = []
  · have c0 := hQ1.c0
    have c1 := hQ1.c1
    have c2 := hQ1.c2
    have f0 := hQ1.fz 0
    have f1 := hQ1.fz 1
    have f2 := hQ1.fz 2
    go_wp2
    refine bodyPost_ret (tok_ret (((hQ1.set 0 _ 0 X n rfl).set 1 _ 0 X n rfl).set 2 _ 0 X n rfl) _ rfl) rfl ⟨?_, (((hQ1.set 0 _ 0 X n rfl).set 1 _ 0 X n rfl).set 2 _ 0 X n rfl).rd, (((hQ1.set 0 _ 0 X n rfl).set 1 _ 0 X n rfl).set 2 _ 0 X n rfl).upd⟩
    rw [← HX.out, wordKind, if_pos hX0]
    rfl
  have cut1 : (cutDot X).1.size ≤ 9223372036854775806 ∧ (cutDot X).2.1.size ≤ 9223372036854775806 := by
    have := HXs.out
    unfold cutDot
    have e0 : (⟨#[]⟩ : ByteArray).size = 0 := rfl
    split <;> simp [ByteArray.size_extract, e0] <;> omega
  have Cut1 := Lib.hid cut1
  clear cut1
  have c1 := hQ1.c1
  have hXe : X.toList.isEmpty = false := by simpa using hX0
  go_wp2_with fail
  refine (plain_any X W3 HXs.out).mono ?_
  rintro e w4 ⟨rfl, hb4⟩
  have hQ2 := hQ1.all hb4
  clear c1 hb4 hQ1
  cases hP : plainB X.toList with
  | true =>
    have c0 := hQ2.c0
    have c1 := hQ2.c1
    have c2 := hQ2.c2
    have f0 := hQ2.fz 0
    have f1 := hQ2.fz 1
    have f2 := hQ2.fz 2
    go_wp2
    refine bodyPost_ret (tok_ret ((((hQ2.set 0 _ 3 X n rfl).set 0 _ 3 X n rfl).set 1 _ 3 X n rfl).set 2 _ 3 X n rfl) _ rfl) rfl ⟨?_, ((((hQ2.set 0 _ 3 X n rfl).set 0 _ 3 X n rfl).set 1 _ 3 X n rfl).set 2 _ 3 X n rfl).rd, ((((hQ2.set 0 _ 3 X n rfl).set 0 _ 3 X n rfl).set 1 _ 3 X n rfl).set 2 _ 3 X n rfl).upd⟩
    rw [← HX.out, wordKind, if_neg hX0, if_pos hP]
    rfl
  | false =>
    have c1 := hQ2.c1
    go_wp2_with fail
    refine (numeral_any R X w4 HXs.out hQ2.rd.cls).mono ?_
    rintro e w5 ⟨rfl, m2, rfl⟩
    have hQ3 := hQ2.drewN m2
    obtain ⟨W5, hW5⟩ : ∃ W5, W5 = w4.drewN m2 := ⟨_, rfl⟩
    rw [← hW5] at hQ3 ⊢
    clear hW5 hQ2 c1
    cases hN : numB X with
    | true =>
      have c0 := hQ3.c0
      have c1 := hQ3.c1
      have c2 := hQ3.c2
      have f0 := hQ3.fz 0
      have f1 := hQ3.fz 1
      have f2 := hQ3.fz 2
      go_wp2
      refine bodyPost_ret (tok_ret ((((hQ3.set 0 _ 4 X n rfl).set 0 _ 4 X n rfl).set 1 _ 4 X n rfl).set 2 _ 4 X n rfl) _ rfl) rfl ⟨?_, ((((hQ3.set 0 _ 4 X n rfl).set 0 _ 4 X n rfl).set 1 _ 4 X n rfl).set 2 _ 4 X n rfl).rd, ((((hQ3.set 0 _ 4 X n rfl).set 0 _ 4 X n rfl).set 1 _ 4 X n rfl).set 2 _ 4 X n rfl).upd⟩
      rw [← HX.out, wordKind, if_neg hX0, if_neg (by simp [hP]), if_pos hN]
      rfl
    | false =>
      obtain ⟨b1, hb1⟩ : ∃ b, b = (cutDot X).2.2 := ⟨_, rfl⟩
      rw [← hb1]
      cases b1 with
      | false =>
        have c0 := hQ3.c0
        have c1 := hQ3.c1
        have c2 := hQ3.c2
        have f0 := hQ3.fz 0
        have f1 := hQ3.fz 1
        have f2 := hQ3.fz 2
        have Hb1 := Lib.hid hb1
        clear hb1
        go_wp2
        refine bodyPost_ret (tok_ret (((hQ3.set 0 _ 0 X n rfl).set 1 _ 0 X n rfl).set 2 _ 0 X n rfl) _ rfl) rfl ⟨?_, (((hQ3.set 0 _ 0 X n rfl).set 1 _ 0 X n rfl).set 2 _ 0 X n rfl).rd, (((hQ3.set 0 _ 0 X n rfl).set 1 _ 0 X n rfl).set 2 _ 0 X n rfl).upd⟩
        rw [← HX.out, wordKind, if_neg hX0, if_neg (by simp [hP]), if_neg (by simp [hN]), if_neg (by simp [← Hb1.out])]
        rfl
      | true =>
        have Hb1 := Lib.hid hb1
        clear hb1
        go_wp2_with fail
        refine (numeral_any R _ W5 Cut1.out.1 hQ3.rd.cls).mono ?_
        rintro e w6 ⟨rfl, m3, rfl⟩
        have hQ4 := hQ3.drewN m3
        obtain ⟨W6, hW6⟩ : ∃ W6, W6 = W5.drewN m3 := ⟨_, rfl⟩
        rw [← hW6] at hQ4 ⊢
        clear hW6 hQ3
        cases hN1 : numB (cutDot X).1 with
        | false =>
          have c0 := hQ4.c0
          have c1 := hQ4.c1
          have c2 := hQ4.c2
          have f0 := hQ4.fz 0
          have f1 := hQ4.fz 1
          have f2 := hQ4.fz 2
          go_wp2
          refine bodyPost_ret (tok_ret (((hQ4.set 0 _ 0 X n rfl).set 1 _ 0 X n rfl).set 2 _ 0 X n rfl) _ rfl) rfl ⟨?_, (((hQ4.set 0 _ 0 X n rfl).set 1 _ 0 X n rfl).set 2 _ 0 X n rfl).rd, (((hQ4.set 0 _ 0 X n rfl).set 1 _ 0 X n rfl).set 2 _ 0 X n rfl).upd⟩
          rw [← HX.out, wordKind, if_neg hX0, if_neg (by simp [hP]), if_neg (by simp [hN]), if_neg (by simp [hN1])]
          rfl
        | true =>
          go_wp2_with fail
          refine (all_any R _ 2 W6 Cut1.out.2 hQ4.rd.cls).mono ?_
          rintro e w7 ⟨rfl, m4, rfl⟩
          have hQ5 := hQ4.drewN m4
          obtain ⟨W7, hW7⟩ : ∃ W7, W7 = W6.drewN m4 := ⟨_, rfl⟩
          rw [← hW7] at hQ5 ⊢
          clear hW7 hQ4
          have c0 := hQ5.c0
          have c1 := hQ5.c1
          have c2 := hQ5.c2
          have f0 := hQ5.fz 0
          have f1 := hQ5.fz 1
          have f2 := hQ5.fz 2
          cases hA : allB 2 (cutDot X).2.1.toList with
          | false =>
            go_wp2
            refine bodyPost_ret (tok_ret (((hQ5.set 0 _ 0 X n rfl).set 1 _ 0 X n rfl).set 2 _ 0 X n rfl) _ rfl) rfl ⟨?_, (((hQ5.set 0 _ 0 X n rfl).set 1 _ 0 X n rfl).set 2 _ 0 X n rfl).rd, (((hQ5.set 0 _ 0 X n rfl).set 1 _ 0 X n rfl).set 2 _ 0 X n rfl).upd⟩
            rw [← HX.out, wordKind, if_neg hX0, if_neg (by simp [hP]), if_neg (by simp [hN]), if_neg (by simp [hA])]
            rfl
          | true =>
            go_wp2
            refine bodyPost_ret (tok_ret ((((hQ5.set 0 _ 7 X n rfl).set 0 _ 7 X n rfl).set 1 _ 7 X n rfl).set 2 _ 7 X n rfl) _ rfl) rfl ⟨?_, ((((hQ5.set 0 _ 7 X n rfl).set 0 _ 7 X n rfl).set 1 _ 7 X n rfl).set 2 _ 7 X n rfl).rd, ((((hQ5.set 0 _ 7 X n rfl).set 0 _ 7 X n rfl).set 1 _ 7 X n rfl).set 2 _ 7 X n rfl).upd⟩
            rw [← HX.out, wordKind, if_neg hX0, if_neg (by simp [hP]), if_neg (by simp [hN]), if_pos (by simp [← Hb1.out, hN1, hA])]
            rfl
end Go.Proofs.YtjdgfdpbiidldaaGreatDoor

namespace Go.Proofs.YtjdgfdpbiidldaaGreatDoor
open Go.RowKit

theorem letter_tests : ∀ n, n < 256 → bits BinOp.and IntKind.u8 (cls n) 1 ≠ 0 → ((n : Int) == 40) = false ∧ ((n : Int) == 41) = false ∧ ((n : Int) == 124) = false ∧ ((n : Int) == 34) = false ∧ ((n : Int) == 58) = false ∧ ((n : Int) == 35) = false ∧ ((n : Int) == 59) = false ∧ (bits BinOp.and IntKind.u8 (cls n) 4 != 0) = false := by decide +kernel

theorem info34 : (Tryz.prog.info? 34).map (fun i => (i.zero, i.size, i.bytes)) = some (some (.agg #[.int .u8 0, .string ⟨#[]⟩, .int .i64 0]), 3, 32) := by kernel_rfl

set_option maxHeartbeats 2000000 in
set_option maxRecDepth 100000 in
theorem tokens_plain (g o cap : Nat) (l : List UInt8) (w : World) (hb : ∀ j x, l[j]? = some x → w.cell? ⟨g, o + j, none⟩ = some (.int .u8 x.toNat)) (hg : g < w.heap.size) (hc : l.length ≤ cap) (hl : l.length ≤ 1048576) (hp : plainB l = true) :
    Calls Tryz.prog 193 #[.slice (some ⟨g, o, none⟩) l.length cap] w fun e w' => ∃ v, e = .returned (.tuple #[v, .int .i64 l.length, .int .i64 0]) ∧ w'.ownsRow w.heap.size 34 3 v 1 [.int .u8 3, .string ⟨l.toArray⟩, .int .i64 0] ∧ Below w.heap.size w w' := by
  obtain ⟨i0, hi, hz0, hz1, hz2⟩ := info_parts info34
  obtain ⟨C, hC⟩ : ∃ C, C = clsCells := ⟨_, rfl⟩
  obtain ⟨R, hR⟩ : ∃ R, R = rdCells (.slice (some ⟨g, o, none⟩) l.length cap) 0 := ⟨_, rfl⟩
  have hbr : ∀ w, (Instr.build 382 #[(0, .agg C), (1, .slice (some ⟨g, o, none⟩) l.length cap)]).run Tryz.prog w = .ok (.agg R) w := by rw [hC, hR]; exact fun w => build_rd w _ rfl
  have hcl := classes_any w
  rw [← hC] at hcl
  have h1 : (Tryz.prog.info? 382).map (·.size) = some R.size := by rw [hR, rdCells_size]; exact hi382
  have h3 : R.all (·.oneCell') = true := by rw [hR]; exact rdCells_one _ _ rfl
  have HR := Lib.hid hR
  have Hb := Lib.hid hb
  clear hC hR hb
  go_enter Tryz.func193, Tryz.ntmps193
  go_wp2_with fail
  refine hcl.mono ?_
  rintro e w1 ⟨rfl, hb1⟩
  go_wp2_with (first | (refine wpList_build2 rfl 382 0 1 (.tmp 13) (.tmp 14) rfl (.agg R) ?hbd ?_; case hbd => exact hbr _) | (refine wpList_boxTo rfl 382 (.tmp 15) rfl (some 16) rfl w1.heap.size rfl R rfl ?_))
  obtain ⟨W0, hW0⟩ : ∃ W0, W0 = w1.alloc (Obj.cells R 382) := ⟨_, rfl⟩
  have hrd0 : IsRd W0 w1.heap.size g o cap l (0 : Nat) := by
    have := hb1.size
    refine ⟨?_, fun j x hx => ?_, by omega, hc⟩
    · rw [hW0, heap_alloc_new, HR.out]; rfl
    · rw [hW0, ← Hb.out j x hx]
      have h2 := ((hb1.alloc hb1.size (Obj.cells R 382))).cell (p := ⟨g, o + j, none⟩) hg
      exact h2
  have hbel0 : Below w.heap.size w W0 := by rw [hW0]; exact hb1.alloc hb1.size _
  have hsz1 := hb1.size
  rw [← hW0]
  clear hW0 hbr hcl h1 h3
  obtain ⟨B, hB⟩ : ∃ B, B = w1.heap.size := ⟨_, rfl⟩
  rw [← hB] at hrd0 hsz1 ⊢
  have HB := Lib.hid hB
  clear hB hb1 HR
  obtain ⟨x, hx⟩ : ∃ x, l[0]? = some x := by
    cases hl : l with
    | nil => rw [hl] at hp; simp [plainB, allB] at hp
    | cons a m => exact ⟨a, rfl⟩
  have hpos : 0 < l.length := (List.getElem?_eq_some_iff.1 hx).1
  have hall : ∀ y ∈ l, isC 1 y = true := by
    have h : allB 1 l = true := by unfold plainB at hp; exact (Bool.and_eq_true _ _ ▸ hp).1
    unfold allB at h
    rw [Bool.and_eq_true] at h
    simpa using h.2
  have hword : wordAt l 0 = l := by
    unfold wordAt
    rw [List.drop_zero]
    have h := takeWhile_stop (isC 1) l l.length (Nat.le_refl _) (fun j y _ hy => hall y (List.mem_of_getElem? hy)) (fun y hy => by simp at hy)
    rw [h, List.take_length]
  have hx1 : isC 1 x = true := hall x (List.mem_of_getElem? hx)
  have hxl : x.toNat < 256 := UInt8.toNat_lt x
  obtain ⟨t40, t41, t124, t34, t58, t35, t59, t4⟩ := letter_tests x.toNat hxl (by simpa [isC] using hx1)
  have Hx := Lib.hid hx
  have Hword := Lib.hid hword
  clear hx hword hall hx1
  go_loopw [6, 7, 8, 9] (fun v6 _ _ _ wr => (v6 = .slice none 0 0 ∧ wr = W0) ∨ (∃ gg c2, v6 = .slice (some ⟨gg, 0, none⟩) 1 c2 ∧ wr.ownsRow w.heap.size 34 3 (.slice (some ⟨gg, 0, none⟩) 1 c2) 1 [.int .u8 3, .string ⟨l.toArray⟩, .int .i64 0] ∧ IsRd wr B g o cap l l.length ∧ Below w.heap.size w wr))
    (fun v6 _ _ _ _ => match v6 with | .slice none _ _ => 1 | _ => 0)
  case atStart => exact .inl ⟨rfl, rfl⟩
  case round =>
    rcases hrel with ⟨rfl, rfl⟩ | ⟨gg, c2, rfl, hown, hrd, hbel⟩
    · have c256 := hrd0.c256
      have c257 := hrd0.c257
      have cb := hrd0.bytes 0 x Hx.out
      rw [Nat.add_zero] at cb
      have cc := hrd0.cls x.toNat hxl
      have hxi : (x.toNat : Int) < 256 := by omega
      go_wp2
      go_quiet (fail)
      go_wp2_with fail
      have hk : wordKind ⟨l.toArray⟩ = (3, 0) := by
        have e : (⟨l.toArray⟩ : ByteArray).toList = l := by rw [ByteArray.toList_eq]
        unfold wordKind
        rw [e, if_neg (by intro h; rw [h] at hpos; simp at hpos), if_pos hp]
      refine (token_word B g o cap l 0 x _ (hrd0.drewN nq) Hx.out (by omega) t40 t41 t124 t34 t58 t35).mono ?_
      rintro e w2 ⟨rfl, hrd2, hU2⟩
      rw [Hword.out] at hrd2 ⊢
      rw [hk]
      simp only [Nat.zero_add] at hrd2
      have hU3 : Upd (fun k => w.heap.size ≤ k) w w2 := ((Upd.of_below hbel0).drewN nq).then hU2 (fun i _ e => by rw [e]; exact hsz1)
      have hbel2 : Below w.heap.size w w2 := hU3.below (Nat.le_refl _) (fun k hk hn => by omega)
      clear hU2 hU3 hk c256 c257 cb cc hrd0 hbel0
      have hs2 := hbel2.size
      go_wp2_with (at_builtin; refine wpList_append_own _ rfl (.tmp 38) (.tmp 40) 69 rfl w.heap.size 34 i0 _ 3 32 Tryz.underlying69 hi hz0 hz1 hz2 rfl (by decide) _ _ _ rfl (World.ownsRow_nil _ _ 34 3) ⟨w2.heap.size + 1, 0, none⟩ 1 1 [.int .u8 3, .string ⟨l.toArray⟩, .int .i64 0] rfl rfl ?c1 ?c2 ?c3 ?c4 ?c5 ?_)
      case c1 =>
        intro j u hu
        have h := new_cells (w2.alloc (Obj.cells #[Value.int IntKind.u8 3, Value.string { data := l.toArray }, Value.int IntKind.i64 0] 34)) [Value.int IntKind.u8 3, Value.string { data := l.toArray }, Value.int IntKind.i64 0] 34 j u hu
        simpa using h
      case c2 => intro u hu; simp at hu; rcases hu with rfl | rfl | rfl <;> rfl
      case c3 => unfold maxLen; omega
      case c4 => omega
      case c5 => simp; omega
      intro v' w3 hown3 hgrow _
      have hU4 := ((Upd.alloc (Upd.alloc (Upd.refl (fun _ => False) w2) _) _).grown hgrow (fun k hk _ => by simp [Value.ownBlock] at hk))
      have hrd3 := hrd2.upd hU4 (fun x => x) (fun _ x => x)
      have hbel3 := hbel2.trans (hU4.below hs2 (fun _ _ x => x))
      obtain ⟨g', cap', rfl⟩ := ownsRow_pos hown3
      clear hgrow hU4 hrd2 hbel2 hs2
      have c257 := hrd3.c257
      go_wp2
      go_roundw
      case rel => exact .inr ⟨g', cap', rfl, hown3, hrd3, hbel3⟩
      case measure => show (0 : Nat) < 1; omega
    · have c257 := hrd.c257
      go_wp2
      go_ret3
      exact ⟨_, rfl, hown, hbel⟩
end Go.Proofs.YtjdgfdpbiidldaaGreatDoor

namespace Go.Proofs.YtjdgfdpbiidldaaGreatDoor
open Go.RowKit

structure TokD where
  kind : Int
  text : List UInt8
  at_ : Nat
def tokCells (t : TokD) : List Value := [.int .u8 t.kind, .string ⟨t.text.toArray⟩, .int .i64 t.at_]
theorem tokCells_len (t : TokD) : (tokCells t).length = 3 := rfl

/-- the tokens from a place on -/
inductive RT (l : List UInt8) : Nat → List TokD → Prop
  | nil : RT l l.length []
  | blank {n c ts} : l[n]? = some c → rBlank c = true → RT l (n + 1) ts → RT l n ts
  | opens {n ts} : l[n]? = some 40 → RT l (n + 1) ts → RT l n (⟨1, [40], n⟩ :: ts)
  | closes {n ts} : l[n]? = some 41 → RT l (n + 1) ts → RT l n (⟨2, [41], n⟩ :: ts)
  | word {n c ts} : l[n]? = some c → rLetter c = true → rDigit c = false → RT l (n + (rWord l n).length) ts → RT l n (⟨3, rWord l n, n⟩ :: ts)
  | number {n c ts} : l[n]? = some c → rLetter c = true → rDigit c = true → rNumeral (rWord l n) = true → RT l (n + (rWord l n).length) ts → RT l n (⟨4, rWord l n, n⟩ :: ts)

theorem rWord_pos {l : List UInt8} {n : Nat} {c : UInt8} (hc : l[n]? = some c) (h : rLetter c = true) : 0 < (rWord l n).length := by
  have hn : n < l.length := (List.getElem?_eq_some_iff.1 hc).1
  have : rWord l n = c :: (l.drop (n + 1)).takeWhile rLetter := by
    unfold rWord
    rw [List.drop_eq_getElem_cons hn]
    have : l[n] = c := (List.getElem?_eq_some_iff.1 hc).2
    rw [this, List.takeWhile_cons, h]; rfl
  rw [this]; simp

/-- what a token's place asks of One -/
def OneAt (g o cap B : Nat) (l : List UInt8) (n : Nat) (t : TokD) (m : Nat) : Prop :=
  ∀ w : World, BytesAt w g o l → B ≤ w.heap.size → Calls Tryz.prog 76 #[.slice (some ⟨g, o, none⟩) l.length cap, .int .i64 n] w fun e w' => e = .returned (.tuple #[.agg #[.int .u8 t.kind, .string ⟨t.text.toArray⟩, .int .i64 n], .int .i64 m, .int .i64 0]) ∧ Below w.heap.size w w'

theorem RT.step {l : List UInt8} {n : Nat} {ts : List TokD} (h : RT l n ts) (g o cap B : Nat) (hg : g < B) (hcap : l.length ≤ cap) (hl : l.length ≤ 9223372036854775806) :
    (n = l.length ∧ ts = []) ∨ (∃ c, l[n]? = some c ∧ rBlank c = true ∧ RT l (n + 1) ts) ∨
    (∃ c t m r, l[n]? = some c ∧ rBlank c = false ∧ c.toNat ≠ 59 ∧ ts = t :: r ∧ t.at_ = n ∧ 0 < m ∧ n + m ≤ l.length ∧ RT l (n + m) r ∧ OneAt g o cap B l n t m) := by
  cases h with
  | nil => exact .inl ⟨rfl, rfl⟩
  | blank h1 h2 h3 => exact .inr (.inl ⟨_, h1, h2, h3⟩)
  | opens h1 h2 =>
    have hn : n < l.length := (List.getElem?_eq_some_iff.1 h1).1
    exact .inr (.inr ⟨_, _, 1, _, h1, by decide, by decide, rfl, rfl, by omega, by omega, h2, fun w hb hB => one_open g o cap l n w hb (by omega) h1 hl⟩)
  | closes h1 h2 =>
    have hn : n < l.length := (List.getElem?_eq_some_iff.1 h1).1
    exact .inr (.inr ⟨_, _, 1, _, h1, by decide, by decide, rfl, rfl, by omega, by omega, h2, fun w hb hB => one_close g o cap l n w hb (by omega) h1 hl⟩)
  | word h1 h2 h3 h4 =>
    rename_i c _
    have hn : n < l.length := (List.getElem?_eq_some_iff.1 h1).1
    have hx := rletter_tests' c h2
    simp only [List.mem_cons, List.not_mem_nil, or_false, not_or] at hx
    obtain ⟨_, _, _, _, _, _, x7, x8, x9, x10, x11⟩ := hx
    exact .inr (.inr ⟨_, _, _, _, h1, by simp [rBlank, x8, x9, x10, x11], x7, rfl, rfl, rWord_pos h1 h2, rWord_le (Nat.le_of_lt hn), h4, fun w hb hB => one_word3 g o cap l n c w hb (by omega) h1 h2 h3 hl hcap⟩)
  | number h1 h2 h3 h5 h4 =>
    rename_i c _
    have hn : n < l.length := (List.getElem?_eq_some_iff.1 h1).1
    have hx := rletter_tests' c h2
    simp only [List.mem_cons, List.not_mem_nil, or_false, not_or] at hx
    obtain ⟨_, _, _, _, _, _, x7, x8, x9, x10, x11⟩ := hx
    exact .inr (.inr ⟨_, _, _, _, h1, by simp [rBlank, x8, x9, x10, x11], x7, rfl, rfl, rWord_pos h1 h2, rWord_le (Nat.le_of_lt hn), h4, fun w hb hB => one_word4 g o cap l n c w hb (by omega) h1 h2 h3 h5 hl hcap⟩)

theorem RT.le {l : List UInt8} {n : Nat} {ts : List TokD} (h : RT l n ts) : n + ts.length ≤ l.length := by
  induction h with
  | nil => simp
  | blank _ _ _ ih => omega
  | opens _ _ ih => simp; omega
  | closes _ _ ih => simp; omega
  | word h1 h2 _ _ ih => have := rWord_pos h1 h2; simp; omega
  | number h1 h2 _ _ _ ih => have := rWord_pos h1 h2; simp; omega

set_option maxHeartbeats 4000000 in
set_option maxRecDepth 100000 in
theorem rtokens_any (g o cap : Nat) (l : List UInt8) (ts : List TokD) (w : World) (hb : BytesAt w g o l) (hg : g < w.heap.size) (hc : l.length ≤ cap) (hl : l.length ≤ 1048576) (hp : RT l 0 ts) :
    Calls Tryz.prog 25 #[.slice (some ⟨g, o, none⟩) l.length cap] w fun e w' => ∃ v, e = .returned (.tuple #[v, .int .i64 l.length, .int .i64 0]) ∧ w'.ownsRow w.heap.size 34 3 v ts.length (ts.flatMap tokCells) ∧ Below w.heap.size w w' := by
  obtain ⟨i0, hi, hz0, hz1, hz2⟩ := info_parts info34
  have Hb := Lib.hid hb
  have Hp := Lib.hid hp
  have hli : (l.length : Int) ≤ 1048576 := by omega
  clear hb hp
  go_enter Tryz.func25, Tryz.ntmps25
  go_wp2
  go_loopw [5, 6, 7, 8, 9] (fun v5 v6 _ _ _ wr => ∃ (n : Nat) (done rest : List TokD), v6 = .int .i64 n ∧ ts = done ++ rest ∧ RT l n rest ∧ wr.ownsRow w.heap.size 34 3 v5 done.length (done.flatMap tokCells) ∧ Below w.heap.size w wr)
    (fun _ v6 _ _ _ _ => l.length - (intOf v6).toNat)
  case atStart => exact ⟨0, [], ts, rfl, rfl, Hp.out, World.ownsRow_nil _ _ _ _, Below.refl _ _⟩
  case round =>
    obtain ⟨n, done, rest, rfl, hts, hrt, hown, hbel⟩ := hrel
    have hle := hrt.le
    have Hts := Lib.hid hts
    have hdl : done.length + rest.length ≤ 1048576 := by
      have h1 := Hp.out.le
      rw [hts] at h1
      simp at h1
      omega
    have hbb := Hb.out.below hbel hg
    rcases hrt.step g o cap w.heap.size hg hc (by omega) with ⟨rfl, hr⟩ | ⟨c, hcn, hbl, hnext⟩ | ⟨c, t, m, r, hcn, hbl, h59, hr, hat, hm, hnm, hnext, hone⟩
    · have hd : ts = done := by rw [hts, hr]; simp
      have Hd := Lib.hid hd
      have Hown := Lib.hid hown
      clear hts hr hd hrt hown hbb
      go_wp2
      go_ret3
      exact ⟨_, rfl, by rw [Hd.out]; exact Hown.out, hbel⟩
    · have hcell := hbb n c hcn
      have hn : n < l.length := (List.getElem?_eq_some_iff.1 hcn).1
      have hni : (n : Int) < l.length := by omega
      have Hnext := Lib.hid hnext
      have Hown := Lib.hid hown
      have Hbl := Lib.hid hbl
      clear hts hrt hnext hown hbl hcn hbb
      go_wp2_with (go_at_call 75; refine (rblank_any c _).mono ?_; rintro e w' ⟨rfl, rfl⟩; rw [Hbl.out])
      go_roundw
      case rel => exact ⟨n + 1, done, rest, by simp, Hts.out, Hnext.out, Hown.out, hbel⟩
      case measure => simp [intOf]; omega
    · have hcell := hbb n c hcn
      have hn : n < l.length := (List.getElem?_eq_some_iff.1 hcn).1
      have hni : (n : Int) < l.length := by omega
      have hnmi : (n : Int) + m ≤ l.length := by omega
      have h59b : ((c.toNat : Int) == 59) = false := by rw [beq_eq_false_iff_ne]; omega
      have hcall := hone wr hbb hbel.size
      have Hcall := Lib.hid hcall
      have Hnext := Lib.hid hnext
      have Hown := Lib.hid hown
      have Hbl := Lib.hid hbl
      have Hr := Lib.hid hr
      have Hat := Lib.hid hat
      clear hts hrt hnext hown hbl hcn hbb hone hcall hr hat h59
      go_wp2_with (first | (go_at_call 75; refine (rblank_any c _).mono ?_; rintro e w' ⟨rfl, rfl⟩; rw [Hbl.out]) | (go_at_call 76; refine Hcall.out.mono ?_))
      rintro e w2 ⟨rfl, hb2⟩
      have hbel2 := hbel.trans (hb2.mono hbel.size)
      have hown2 := ownsRow_same Hown.out (fun g hg => hb2.block g (Hown.out.lt g hg).2)
      obtain ⟨ao, c0, rfl⟩ := ownsRow_len hown2
      have Hown2 := Lib.hid ((hown2.alloc (Obj.cells #[.int .u8 t.kind, .string ⟨t.text.toArray⟩, .int .i64 n] 34)).alloc (Obj.cells #[.int .u8 t.kind, .string ⟨t.text.toArray⟩, .int .i64 n] 34))
      have hsz2 := hbel2.size
      clear hown2 hb2
      go_wp2_with (at_builtin; refine wpList_append_own _ rfl (.tmp 29) (.tmp 31) 69 rfl w.heap.size 34 i0 _ 3 32 Tryz.underlying69 hi hz0 hz1 hz2 rfl (by decide) _ _ _ rfl Hown2.out ⟨w2.heap.size + 1, 0, none⟩ 1 1 (tokCells t) rfl rfl ?c1 ?c2 ?c3 ?c4 ?c5 ?_)
      case c1 =>
        intro j u hu
        have h := new_cells (w2.alloc (Obj.cells #[.int .u8 t.kind, .string ⟨t.text.toArray⟩, .int .i64 n] 34)) (tokCells t) 34 j u hu
        have e : (tokCells t).toArray = #[.int .u8 t.kind, .string ⟨t.text.toArray⟩, .int .i64 n] := by unfold tokCells; rw [Hat.out]
        rw [e] at h
        simpa using h
      case c2 => intro u hu; simp [tokCells] at hu; rcases hu with rfl | rfl | rfl <;> rfl
      case c3 => have := Hr.out; rw [this] at hdl; simp at hdl; unfold maxLen; omega
      case c4 => have := Hr.out; rw [this] at hdl; simp at hdl; omega
      case c5 => simp; omega
      intro v' w3 hown3 hgrow _
      have hbel3 : Below w.heap.size w w3 := (((hbel2.alloc hsz2 _).alloc (by simp; omega) _).grown hgrow (by simp; omega) (fun k hk => (Hown2.out.lt k hk).1))
      have Hown3 := Lib.hid hown3
      clear hown3 hgrow
      go_wp2
      go_roundw
      case rel =>
        refine ⟨n + m, done ++ [t], r, by simp, by rw [Hts.out, Hr.out]; simp, Hnext.out, ?_, hbel3⟩
        have h := Hown3.out
        simpa using h
      case measure => simp [intOf]; omega
end Go.Proofs.YtjdgfdpbiidldaaGreatDoor

namespace Go.Proofs.YtjdgfdpbiidldaaGreatDoor
open Go.RowKit

/-- tokens as they lie -/
def ToksAt (w : World) (g o : Nat) (ts : List TokD) : Prop := ∀ i t, ts[i]? = some t → w.cell? ⟨g, o + i * 3, none⟩ = some (.int .u8 t.kind) ∧ w.cell? ⟨g, o + i * 3 + 1, none⟩ = some (.string ⟨t.text.toArray⟩) ∧ w.cell? ⟨g, o + i * 3 + 2, none⟩ = some (.int .i64 t.at_)
theorem ToksAt.below {w w' : World} {B g o : Nat} {ts : List TokD} (h : ToksAt w g o ts) (hb : Below B w w') (hg : g < B) : ToksAt w' g o ts := fun i t hi => by
  obtain ⟨h1, h2, h3⟩ := h i t hi
  exact ⟨(hb.cell (p := ⟨g, _, none⟩) hg).trans h1, (hb.cell (p := ⟨g, _, none⟩) hg).trans h2, (hb.cell (p := ⟨g, _, none⟩) hg).trans h3⟩
theorem ToksAt.drop {w : World} {g o : Nat} {ts : List TokD} (h : ToksAt w g o ts) (n : Nat) : ToksAt w g (o + n * 3) (ts.drop n) := fun i t hi => by
  rw [List.getElem?_drop] at hi
  have := h (n + i) t hi
  have e : o + n * 3 + i * 3 = o + (n + i) * 3 := by rw [Nat.add_mul]; omega
  rw [e]; exact this
theorem ToksAt.take {w : World} {g o : Nat} {ts : List TokD} (h : ToksAt w g o ts) (n : Nat) : ToksAt w g o (ts.take n) := fun i t hi => by
  refine h i t ?_
  rw [List.getElem?_take] at hi
  split at hi
  · exact hi
  · cases hi
theorem ToksAt.of_owns {w : World} {B g cap : Nat} {ts : List TokD} (h : w.ownsRow B 34 3 (.slice (some ⟨g, 0, none⟩) ts.length cap) ts.length (ts.flatMap tokCells)) : ToksAt w g 0 ts := fun i t hi => by
  have hlt : i < ts.length := (List.getElem?_eq_some_iff.1 hi).1
  have hc : ∀ c u, c < 3 → (tokCells t)[c]? = some u → w.cell? ⟨g, 0 + i * 3 + c, none⟩ = some u := by
    intro c u hc hu
    have h4 := flatMap_at tokCells 3 tokCells_len ts i c t hi hc
    have h5 := h.cellAt (i * 3 + c) (by omega)
    rw [Nat.zero_add, h5, h4, hu]
  exact ⟨hc 0 _ (by omega) rfl, hc 1 _ (by omega) rfl, hc 2 _ (by omega) rfl⟩

def openF (op : Int) (k : Int) : Int := let a := if k = 1 then op + 1 else op; if k = 2 then a - 1 else a
/-- where the tree that begins ends -/
def endF : List TokD → Int → Nat → Int
  | [], _, _ => -1
  | t :: r, op, i => if openF op t.kind = 0 then (i : Int) + 1 else endF r (openF op t.kind) (i + 1)

theorem drop_cons {α : Type} {l : List α} {k : Nat} {x : α} (h : l[k]? = some x) : l.drop k = x :: l.drop (k + 1) := by
  obtain ⟨h1, h2⟩ := List.getElem?_eq_some_iff.1 h
  rw [List.drop_eq_getElem_cons h1, h2]

set_option maxHeartbeats 2000000 in
set_option maxRecDepth 100000 in
theorem rend_any (g o cap : Nat) (ts : List TokD) (n : Nat) (w : World) (hb : ToksAt w g o ts) (hn : n ≤ ts.length) (hl : ts.length ≤ 1048576) :
    Calls Tryz.prog 77 #[.slice (some ⟨g, o, none⟩) ts.length cap, .int .i64 n] w fun e w' => e = .returned (.int .i64 (endF (ts.drop n) 0 n)) ∧ w = w' := by
  have Hb := Lib.hid hb
  have hli : (ts.length : Int) ≤ 1048576 := by omega
  clear hb
  go_enter Tryz.func77, Tryz.ntmps77
  go_wp2
  go_loopw [5, 6] (fun v5 v6 wr => ∃ (k : Nat) (op : Int), v6 = .int .i64 k ∧ v5 = .int .i64 op ∧ n ≤ k ∧ k ≤ ts.length ∧ -(k : Int) ≤ op ∧ op ≤ k ∧ endF (ts.drop n) 0 n = endF (ts.drop k) op k ∧ wr = w)
    (fun _ v6 _ => ts.length - (intOf v6).toNat)
  case atStart => exact ⟨n, 0, rfl, rfl, Nat.le_refl _, hn, by omega, by omega, rfl, by first | rfl | trivial⟩
  case round =>
    obtain ⟨k, op, rfl, rfl, h1, h2, h3, h4, he, rfl⟩ := hrel
    have He := Lib.hid he
    clear he
    by_cases hlt : k < ts.length
    · obtain ⟨t, ht⟩ : ∃ t, ts[k]? = some t := ⟨_, List.getElem?_eq_getElem hlt⟩
      obtain ⟨hc, _⟩ := Hb.out k t ht
      have hd := drop_cons ht
      have hki : (k : Int) < ts.length := by omega
      have Hd := Lib.hid hd
      clear ht hd
      have fin : ∀ op', openF op t.kind = op' → ¬ op' = 0 → endF (ts.drop n) 0 n = endF (ts.drop (k + 1)) op' (k + 1) := by
        intro op' h0 hne
        rw [He.out, Hd.out]
        conv => lhs; unfold endF
        rw [h0, if_neg hne]
      have fin0 : openF op t.kind = 0 → endF (ts.drop n) 0 n = (k : Int) + 1 := by
        intro h0
        rw [He.out, Hd.out]
        unfold endF
        rw [h0, if_pos rfl]
      have Fin := Lib.hid fin
      have Fin0 := Lib.hid fin0
      clear fin fin0
      by_cases k1 : t.kind = 1
      · have e1 : (t.kind == 1) = true := by rw [beq_iff_eq]; exact k1
        have e2 : (t.kind == 2) = false := by rw [beq_eq_false_iff_ne]; omega
        have eo : openF op t.kind = op + 1 := by unfold openF; simp only []; rw [if_pos k1, if_neg (by omega)]
        have Eo := Lib.hid eo
        clear k1 eo
        by_cases hz : op + 1 = 0
        · have ez : (op + 1 == 0) = true := by rw [beq_iff_eq]; exact hz
          have Hz := Lib.hid hz
          clear hz
          go_wp2
          go_ret
          exact ⟨ret_i (Fin0.out (Eo.out.trans Hz.out)).symm, rfl⟩
        · have ez : (op + 1 == 0) = false := by rw [beq_eq_false_iff_ne]; exact hz
          have Hz := Lib.hid hz
          clear hz
          go_wp2
          go_roundw
          case rel => exact ⟨k + 1, op + 1, by simp, rfl, by omega, by omega, by omega, by omega, Fin.out _ Eo.out Hz.out, by first | rfl | trivial⟩
          case measure => simp [intOf]; omega
      · have e1 : (t.kind == 1) = false := by rw [beq_eq_false_iff_ne]; exact k1
        by_cases k2 : t.kind = 2
        · have e2 : (t.kind == 2) = true := by rw [beq_iff_eq]; exact k2
          have eo : openF op t.kind = op - 1 := by unfold openF; simp only []; rw [if_neg k1, if_pos k2]
          have Eo := Lib.hid eo
          clear k1 k2 eo
          by_cases hz : op - 1 = 0
          · have ez : (op - 1 == 0) = true := by rw [beq_iff_eq]; exact hz
            have Hz := Lib.hid hz
            clear hz
            go_wp2
            go_ret
            exact ⟨ret_i (Fin0.out (Eo.out.trans Hz.out)).symm, rfl⟩
          · have ez : (op - 1 == 0) = false := by rw [beq_eq_false_iff_ne]; exact hz
            have Hz := Lib.hid hz
            clear hz
            go_wp2
            go_roundw
            case rel => exact ⟨k + 1, op - 1, by simp, rfl, by omega, by omega, by omega, by omega, Fin.out _ Eo.out Hz.out, by first | rfl | trivial⟩
            case measure => simp [intOf]; omega
        · have e2 : (t.kind == 2) = false := by rw [beq_eq_false_iff_ne]; exact k2
          have eo : openF op t.kind = op := by unfold openF; simp only []; rw [if_neg k1, if_neg k2]
          have Eo := Lib.hid eo
          clear k1 k2 eo
          by_cases hz : op = 0
          · have ez : (op == 0) = true := by rw [beq_iff_eq]; exact hz
            have Hz := Lib.hid hz
            clear hz
            go_wp2
            go_ret
            exact ⟨ret_i (Fin0.out (Eo.out.trans Hz.out)).symm, rfl⟩
          · have ez : (op == 0) = false := by rw [beq_eq_false_iff_ne]; exact hz
            have Hz := Lib.hid hz
            clear hz
            go_wp2
            go_roundw
            case rel => exact ⟨k + 1, op, by simp, rfl, by omega, by omega, by omega, by omega, Fin.out _ Eo.out Hz.out, by first | rfl | trivial⟩
            case measure => simp [intOf]; omega
    · have hd : ts.drop k = [] := List.drop_eq_nil_of_le (by omega)
      have Hd := Lib.hid hd
      clear hd
      have hki : ¬ (k : Int) < ts.length := by omega
      go_wp2
      go_ret
      exact ⟨ret_i (by rw [He.out, Hd.out]; rfl), rfl⟩

/-- how deep lists stand -/
def mostF : List TokD → Int → Int → Int
  | [], _, top => top
  | t :: r, op, top => let a := if t.kind = 1 then op + 1 else op; let top' := if a > top then a else top; mostF r (if t.kind = 2 then a - 1 else a) top'

set_option maxHeartbeats 4000000 in
set_option maxRecDepth 100000 in
theorem rmost_any (g o cap : Nat) (ts : List TokD) (w : World) (hb : ToksAt w g o ts) (hl : ts.length ≤ 1048576) :
    Calls Tryz.prog 78 #[.slice (some ⟨g, o, none⟩) ts.length cap] w fun e w' => e = .returned (.int .i64 (mostF ts 0 0)) ∧ w = w' := by
  have Hb := Lib.hid hb
  have hli : (ts.length : Int) ≤ 1048576 := by omega
  clear hb
  go_enter Tryz.func78, Tryz.ntmps78
  go_wp2
  go_loopw [3, 4, 5] (fun v3 v4 v5 wr => ∃ (k : Nat) (op top : Int), v5 = .int .i64 k ∧ v3 = .int .i64 op ∧ v4 = .int .i64 top ∧ k ≤ ts.length ∧ -(k : Int) ≤ op ∧ op ≤ k ∧ mostF ts 0 0 = mostF (ts.drop k) op top ∧ wr = w)
    (fun _ _ v5 _ => ts.length - (intOf v5).toNat)
  case atStart => exact ⟨0, 0, 0, rfl, rfl, rfl, by omega, by omega, by omega, rfl, by first | rfl | trivial⟩
  case round =>
    obtain ⟨k, op, top, rfl, rfl, rfl, h2, h3, h4, he, rfl⟩ := hrel
    have He := Lib.hid he
    clear he
    by_cases hlt : k < ts.length
    · obtain ⟨t, ht⟩ : ∃ t, ts[k]? = some t := ⟨_, List.getElem?_eq_getElem hlt⟩
      obtain ⟨hc, _⟩ := Hb.out k t ht
      have hd := drop_cons ht
      have hki : (k : Int) < ts.length := by omega
      have Hd := Lib.hid hd
      clear ht hd
      have fin : ∀ a top' op', (if t.kind = 1 then op + 1 else op) = a → (if a > top then a else top) = top' → (if t.kind = 2 then a - 1 else a) = op' → mostF ts 0 0 = mostF (ts.drop (k + 1)) op' top' := by
        intro a top' op' r1 r2 r3
        rw [He.out, Hd.out]
        conv => lhs; unfold mostF
        simp only []
        rw [r1, r2, r3]
      have Fin := Lib.hid fin
      clear fin
      by_cases k1 : t.kind = 1
      · have e1 : (t.kind == 1) = true := by rw [beq_iff_eq]; exact k1
        have e2 : (t.kind == 2) = false := by rw [beq_eq_false_iff_ne]; omega
        have n2 : ¬ t.kind = 2 := by omega
        have K1 := Lib.hid k1
        have K2 := Lib.hid n2
        clear k1 n2
        by_cases hz : op + 1 > top
        · go_wp2
          go_roundw
          case rel => exact ⟨k + 1, op + 1, op + 1, by simp, rfl, rfl, by omega, by omega, by omega, Fin.out _ _ _ (if_pos K1.out) (if_pos hz) (if_neg K2.out), by first | rfl | trivial⟩
          case measure => simp [intOf]; omega
        · go_wp2
          go_roundw
          case rel => exact ⟨k + 1, op + 1, top, by simp, rfl, rfl, by omega, by omega, by omega, Fin.out _ _ _ (if_pos K1.out) (if_neg hz) (if_neg K2.out), by first | rfl | trivial⟩
          case measure => simp [intOf]; omega
      · have e1 : (t.kind == 1) = false := by rw [beq_eq_false_iff_ne]; exact k1
        have K1 := Lib.hid k1
        clear k1
        by_cases k2 : t.kind = 2
        · have e2 : (t.kind == 2) = true := by rw [beq_iff_eq]; exact k2
          have K2 := Lib.hid k2
          clear k2
          by_cases hz : op > top
          · go_wp2
            go_roundw
            case rel => exact ⟨k + 1, op - 1, op, by simp, rfl, rfl, by omega, by omega, by omega, Fin.out _ _ _ (if_neg K1.out) (if_pos hz) (if_pos K2.out), by first | rfl | trivial⟩
            case measure => simp [intOf]; omega
          · go_wp2
            go_roundw
            case rel => exact ⟨k + 1, op - 1, top, by simp, rfl, rfl, by omega, by omega, by omega, Fin.out _ _ _ (if_neg K1.out) (if_neg hz) (if_pos K2.out), by first | rfl | trivial⟩
            case measure => simp [intOf]; omega
        · have e2 : (t.kind == 2) = false := by rw [beq_eq_false_iff_ne]; exact k2
          have K2 := Lib.hid k2
          clear k2
          by_cases hz : op > top
          · go_wp2
            go_roundw
            case rel => exact ⟨k + 1, op, op, by simp, rfl, rfl, by omega, by omega, by omega, Fin.out _ _ _ (if_neg K1.out) (if_pos hz) (if_neg K2.out), by first | rfl | trivial⟩
            case measure => simp [intOf]; omega
          · go_wp2
            go_roundw
            case rel => exact ⟨k + 1, op, top, by simp, rfl, rfl, by omega, by omega, by omega, Fin.out _ _ _ (if_neg K1.out) (if_neg hz) (if_neg K2.out), by first | rfl | trivial⟩
            case measure => simp [intOf]; omega
    · have hd : ts.drop k = [] := List.drop_eq_nil_of_le (by omega)
      have Hd := Lib.hid hd
      clear hd
      have hki : ¬ (k : Int) < ts.length := by omega
      go_wp2
      go_ret
      exact ⟨ret_i (by rw [He.out, Hd.out]; rfl), rfl⟩
end Go.Proofs.YtjdgfdpbiidldaaGreatDoor

namespace Go.Proofs.YtjdgfdpbiidldaaGreatDoor
open Go.RowKit

inductive TreeD where
  | mk (list : Bool) (kind : Int) (text : ByteArray) (at_ : Int) (kids : List TreeD)

mutual
/-- a tree's five cells; its kids lie in blocks of P -/
def TreeAt (w : World) (P : Nat → Prop) : TreeD → List Value → Prop
  | .mk l k t a ks, cs => ∃ ao cap, cs = [.bool l, .int .u8 k, .string t, .int .i64 a, .slice ao ks.length cap] ∧ ks.length ≤ cap ∧ (ks ≠ [] → ∃ b o, ao = some ⟨b, o, none⟩ ∧ P b ∧ KidsAt w P b ks o)
def KidsAt (w : World) (P : Nat → Prop) (b : Nat) : List TreeD → Nat → Prop
  | [], _ => True
  | t :: ts, o => (∃ cs, TreeAt w P t cs ∧ ∀ j u, cs[j]? = some u → w.cell? ⟨b, o + j, none⟩ = some u) ∧ KidsAt w P b ts (o + 5)
end

theorem cell_heap {w w' : World} {b : Nat} (h : w'.heap[b]? = w.heap[b]?) (o : Nat) : w'.cell? ⟨b, o, none⟩ = w.cell? ⟨b, o, none⟩ := by unfold World.cell?; simp only []; rw [h]

mutual
theorem TreeAt.keep {w w' : World} {P Q : Nat → Prop} (hPQ : ∀ k, P k → Q k) (hs : ∀ k, P k → w'.heap[k]? = w.heap[k]?) : ∀ (t : TreeD) (cs : List Value), TreeAt w P t cs → TreeAt w' Q t cs
  | .mk l k t a ks, cs, h => by
    unfold TreeAt at h ⊢
    obtain ⟨ao, cap, h1, h2, h3⟩ := h
    refine ⟨ao, cap, h1, h2, fun hne => ?_⟩
    obtain ⟨b, o, h4, h5, h6⟩ := h3 hne
    exact ⟨b, o, h4, hPQ _ h5, KidsAt.keep hPQ hs b (hs b h5) ks o h6⟩
theorem KidsAt.keep {w w' : World} {P Q : Nat → Prop} (hPQ : ∀ k, P k → Q k) (hs : ∀ k, P k → w'.heap[k]? = w.heap[k]?) (b : Nat) (hb : w'.heap[b]? = w.heap[b]?) : ∀ (ts : List TreeD) (o : Nat), KidsAt w P b ts o → KidsAt w' Q b ts o
  | [], _, _ => by unfold KidsAt; trivial
  | t :: ts, o, h => by
    unfold KidsAt at h ⊢
    obtain ⟨⟨cs, h1, h2⟩, h3⟩ := h
    exact ⟨⟨cs, TreeAt.keep hPQ hs t cs h1, fun j u hj => (cell_heap hb _).trans (h2 j u hj)⟩, KidsAt.keep hPQ hs b hb ts (o + 5) h3⟩
end
theorem TreeAt.below {w w' : World} {B : Nat} {t : TreeD} {cs : List Value} (h : TreeAt w (· < B) t cs) (hb : Below B w w') : TreeAt w' (· < B) t cs := TreeAt.keep (fun _ h => h) (fun k hk => hb.block k hk) t cs h
theorem TreeAt.mono {w : World} {P Q : Nat → Prop} {t : TreeD} {cs : List Value} (h : TreeAt w P t cs) (hPQ : ∀ k, P k → Q k) : TreeAt w Q t cs := TreeAt.keep hPQ (fun _ _ => rfl) t cs h

/-- kids out of a row that lies -/
theorem KidsAt.of_row {w : World} {P : Nat → Prop} {b : Nat} : ∀ (ts : List TreeD) (css : List (List Value)) (o : Nat), css.length = ts.length → (∀ (i : Nat) t cs, ts[i]? = some t → css[i]? = some cs → TreeAt w P t cs) → (∀ cs ∈ css, cs.length = 5) →
    (∀ j u, css.flatten[j]? = some u → w.cell? ⟨b, o + j, none⟩ = some u) → KidsAt w P b ts o
  | [], _, _, _, _, _, _ => by unfold KidsAt; trivial
  | t :: ts, [], _, hl, _, _, _ => by simp at hl
  | t :: ts, cs :: css, o, hl, h1, h5, h2 => by
    unfold KidsAt
    have hc5 := h5 cs (by simp)
    refine ⟨⟨cs, h1 0 t cs rfl rfl, fun j u hj => h2 j u ?_⟩, KidsAt.of_row ts css (o + 5) (by simpa using hl) (fun i t' cs' hi hc => h1 (i + 1) t' cs' (by simpa using hi) (by simpa using hc)) (fun c hc => h5 c (by simp [hc])) (fun j u hj => ?_)⟩
    · simp only [List.flatten_cons]
      rw [List.getElem?_append_left (List.getElem?_eq_some_iff.1 hj).1]; exact hj
    · have := h2 (5 + j) u (by simp only [List.flatten_cons]; rw [List.getElem?_append_right (by omega), hc5]; simpa using hj)
      rw [← Nat.add_assoc] at this
      exact this

mutual
/-- these tokens spell just this tree -/
inductive TT : List TokD → TreeD → Prop
  | leaf (t : TokD) : t.kind ≠ 1 → t.kind ≠ 2 → TT [t] (.mk false t.kind ⟨t.text.toArray⟩ t.at_ [])
  | list (t0 tn : TokD) (ts : List TokD) (ks : List TreeD) : t0.kind = 1 → tn.kind = 2 → TTs ts ks → TT (t0 :: (ts ++ [tn])) (.mk true t0.kind ⟨t0.text.toArray⟩ t0.at_ ks)
inductive TTs : List TokD → List TreeD → Prop
  | nil : TTs [] []
  | cons (a b : List TokD) (t : TreeD) (ts : List TreeD) : TT a t → TTs b ts → TTs (a ++ b) (t :: ts)
end

mutual
def depD : TreeD → Nat
  | .mk l _ _ _ ks => if l then 1 + depsD ks else 0
def depsD : List TreeD → Nat
  | [] => 0
  | t :: ts => max (depD t) (depsD ts)
end

theorem openF_leaf {op k : Int} (h1 : k ≠ 1) (h2 : k ≠ 2) : openF op k = op := by unfold openF; simp only []; rw [if_neg h1, if_neg h2]
theorem openF_open {op k : Int} (h1 : k = 1) : openF op k = op + 1 := by unfold openF; simp only []; rw [if_pos h1, if_neg (by omega)]
theorem openF_close {op k : Int} (h1 : k = 2) : openF op k = op - 1 := by
  have n1 : ¬ k = 1 := by omega
  unfold openF; simp only []; rw [if_pos h1, if_neg n1]
theorem endF_cons (t : TokD) (r : List TokD) (op : Int) (i : Nat) : endF (t :: r) op i = if openF op t.kind = 0 then (i : Int) + 1 else endF r (openF op t.kind) (i + 1) := rfl

mutual
theorem endF_tree {a : List TokD} {t : TreeD} (h : TT a t) : ∀ (op : Int) (r : List TokD) (i : Nat), 0 ≤ op → endF (a ++ r) op i = if op = 0 then ((i + a.length : Nat) : Int) else endF r op (i + a.length) := by
  cases h with
  | leaf t h1 h2 =>
    intro op r i h0
    simp only [List.cons_append, List.nil_append, List.length_cons, List.length_nil]
    rw [endF_cons, openF_leaf h1 h2]
    simp
  | list t0 tn ts ks h1 h2 h3 =>
    intro op r i h0
    have ih := endF_trees h3 (op + 1) (tn :: r) (i + 1) (by omega)
    simp only [List.cons_append, List.append_assoc, List.nil_append, List.length_cons, List.length_append, List.length_nil]
    rw [endF_cons, openF_open h1, if_neg (by omega), ih, endF_cons, openF_close h2]
    have e : op + 1 - 1 = op := by omega
    rw [e]
    by_cases hz : op = 0
    · rw [if_pos hz, if_pos hz]; omega
    · rw [if_neg hz, if_neg hz]; congr 1; omega
theorem endF_trees {a : List TokD} {t : List TreeD} (h : TTs a t) : ∀ (op : Int) (r : List TokD) (i : Nat), 0 < op → endF (a ++ r) op i = endF r op (i + a.length) := by
  cases h with
  | nil => intro op r i _; rfl
  | cons a b t ts h1 h2 =>
    intro op r i h0
    rw [List.append_assoc, endF_tree h1 op (b ++ r) i (by omega), if_neg (by omega), endF_trees h2 op r _ h0, List.length_append, Nat.add_assoc]
end

theorem mostF_cons (t : TokD) (r : List TokD) (op top : Int) : mostF (t :: r) op top = mostF r (if t.kind = 2 then (if t.kind = 1 then op + 1 else op) - 1 else (if t.kind = 1 then op + 1 else op)) (if (if t.kind = 1 then op + 1 else op) > top then (if t.kind = 1 then op + 1 else op) else top) := rfl
theorem max_if (a b : Int) : (if a > b then a else b) = max b a := by omega

mutual
theorem mostF_tree {a : List TokD} {t : TreeD} (h : TT a t) : ∀ (op top : Int) (r : List TokD), mostF (a ++ r) op top = mostF r op (max top (op + depD t)) := by
  cases h with
  | leaf t h1 h2 =>
    intro op top r
    simp only [List.cons_append, List.nil_append]
    rw [mostF_cons, if_neg h2, if_neg h1, max_if]
    simp [depD]
  | list t0 tn ts ks h1 h2 h3 =>
    intro op top r
    have ih := mostF_trees h3 (op + 1) (max top (op + 1)) (tn :: r) (by omega)
    simp only [List.cons_append, List.append_assoc, List.nil_append]
    have n1 : ¬ t0.kind = 2 := by omega
    have n2 : ¬ tn.kind = 1 := by omega
    rw [mostF_cons, if_pos h1, if_neg n1, max_if, ih, mostF_cons, if_pos h2, if_neg n2, max_if]
    have e : op + 1 - 1 = op := by omega
    rw [e]
    congr 1
    simp only [depD, if_true]
    omega
theorem mostF_trees {a : List TokD} {t : List TreeD} (h : TTs a t) : ∀ (op top : Int) (r : List TokD), op ≤ top → mostF (a ++ r) op top = mostF r op (max top (op + depsD t)) := by
  cases h with
  | nil => intro op top r h; simp only [List.nil_append, depsD]; congr 1; omega
  | cons a b t ts h1 h2 =>
    intro op top r hle
    rw [List.append_assoc, mostF_tree h1 op top (b ++ r), mostF_trees h2 op _ r (by omega)]
    congr 1
    simp only [depsD]
    omega
end
theorem TT.pos {a : List TokD} {t : TreeD} (h : TT a t) : 0 < a.length := by cases h <;> simp
theorem TT.head {a : List TokD} {t : TreeD} (h : TT a t) : ∃ x r, a = x :: r ∧ x.kind ≠ 2 := by
  cases h with
  | leaf t h1 h2 => exact ⟨_, _, rfl, h2⟩
  | list t0 tn ts ks h1 h2 h3 => exact ⟨_, _, rfl, by omega⟩
end Go.Proofs.YtjdgfdpbiidldaaGreatDoor
