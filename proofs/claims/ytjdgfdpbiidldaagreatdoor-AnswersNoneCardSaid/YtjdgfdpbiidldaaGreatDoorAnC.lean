/-
  AnswersNone: the row and the card.
-/
import Derived.Test.YtjdgfdpbiidldaaGreatDoorCards
import Derived.Test.YtjdgfdpbiidldaaGreatDoorTie
import Derived.Test.YtjdgfdpbiidldaaGreatDoorKn3
import Derived.Test.YtjdgfdpbiidldaaGreatDoorOp1
import Derived.WalkKit
import Derived.ProofKit
import Derived.OpenShut
import Derived.Deep.DeepHandedRow
import Derived.Lib.LaidTab
import Derived.Carry
namespace Go.Proofs.YtjdgfdpbiidldaaGreatDoor.answersNone
open Go.ChangeShapes Go.WideShapes Go.ChangeAt Go.RowKit

theorem own : ownKnob Tryz.prog.godebug = none := by kernel_rfl
theorem laidOut : laidOutB Tryz.prog = true := by kernel_rfl
theorem cells51 : Tryz.prog.cellsOf 51 = 5 := by kernel_rfl
theorem cells29 : Tryz.prog.cellsOf 29 = 2 := by kernel_rfl

theorem struct51 : ∃ f0 f1 f2 f3, Tryz.prog.underlying 51 = some (.struct #[f0, f1, f2, f3]) ∧ (f0.type = 47 ∧ f0.offset = 0) ∧ (f1.type = 4 ∧ f1.offset = 1) ∧ (f2.type = 49 ∧ f2.offset = 2) ∧ (f3.type = 2 ∧ f3.offset = 4) := ⟨_, _, _, _, Tryz.underlying51, ⟨rfl, rfl⟩, ⟨rfl, rfl⟩, ⟨rfl, rfl⟩, ⟨rfl, rfl⟩⟩
theorem struct49 : ∃ f0 f1, Tryz.prog.underlying 49 = some (.struct #[f0, f1]) ∧ (f0.type = 2 ∧ f0.offset = 0) ∧ (f1.type = 2 ∧ f1.offset = 1) := ⟨_, _, Tryz.underlying49, ⟨rfl, rfl⟩, ⟨rfl, rfl⟩⟩
theorem struct29 : ∃ f0 f1, Tryz.prog.underlying 29 = some (.struct #[f0, f1]) ∧ (f0.type = 26 ∧ f0.offset = 0) ∧ (f1.type = 27 ∧ f1.offset = 1) := ⟨_, _, Tryz.underlying29, ⟨rfl, rfl⟩, ⟨rfl, rfl⟩⟩
theorem c47 : Tryz.prog.cellsOf 47 = 1 := by kernel_rfl
theorem c4 : Tryz.prog.cellsOf 4 = 1 := by kernel_rfl
theorem c49 : Tryz.prog.cellsOf 49 = 2 := by kernel_rfl
theorem c2 : Tryz.prog.cellsOf 2 = 1 := by kernel_rfl
theorem c26 : Tryz.prog.cellsOf 26 = 1 := by kernel_rfl
theorem c27 : Tryz.prog.cellsOf 27 = 1 := by kernel_rfl

set_option maxRecDepth 100000 in
theorem val_open {H : Type} {enc : TypeId × Value → H} {w : World} {base : Nat} {spare : Nat → Bool} {held : Bool} {v : Value} {d : DataW H} {p : List MemPlace} {b0 : Nat} (hv : Value.okWide Tryz.prog w .any b0 51 v) (h : DataW.Trod enc Tryz.prog w base spare held 51 v d p) :
    ∃ s bo hi lo E, v = .agg #[.int .i64 s, .bool bo, .int .i64 hi, .int .i64 lo, .int .i64 E] := by
  obtain ⟨cs, rfl, hs⟩ := okWide_struct Tryz.underlying51 hv
  rw [cells51] at hs
  obtain ⟨l⟩ := cs
  match l, hs with
  | [a, b, c, d, e], _ =>
    obtain ⟨fuel, hf⟩ := h
    obtain ⟨f0, f1, f2, f3, hu, ⟨t0, o0⟩, ⟨t1, o1⟩, ⟨t2, o2⟩, ⟨t3, o3⟩⟩ := struct51
    obtain ⟨ys, n, _, _, _, hlen, hg⟩ := DataW.trod_struct hu hf
    match ys, hlen with
    | [y0, y1, y2, y3], _ =>
      have g0 := hg 0 f0 rfl
      have g1 := hg 1 f1 rfl
      have g2 := hg 2 f2 rfl
      have g3 := hg 3 f3 rfl
      rw [t0, o0, c47] at g0
      rw [t1, o1, c4] at g1
      rw [t2, o2, c49] at g2
      rw [t3, o3, c2] at g3
      simp [Value.cells] at g0 g1 g2 g3
      obtain ⟨s, hs, _⟩ := DataW.trod_int Tryz.underlying47 g0
      obtain ⟨bo, hb, _⟩ := DataW.trod_bool Tryz.underlying4 g1
      obtain ⟨E, hE, _⟩ := DataW.trod_int Tryz.underlying2 g3
      obtain ⟨k0, k1, hu2, ⟨u0, q0⟩, ⟨u1, q1⟩⟩ := struct49
      obtain ⟨zs, n2, _, _, _, hlen2, hg2⟩ := DataW.trod_struct hu2 g2
      match zs, hlen2 with
      | [z0, z1], _ =>
        have e0 := hg2 0 k0 rfl
        have e1 := hg2 1 k1 rfl
        rw [u0, q0, c2] at e0
        rw [u1, q1, c2] at e1
        simp at e0 e1
        obtain ⟨hi, hhi, _⟩ := DataW.trod_int Tryz.underlying2 e0
        obtain ⟨lo, hlo, _⟩ := DataW.trod_int Tryz.underlying2 e1
        simp at hs hb hE hhi hlo
        subst hs hb hE hhi hlo
        exact ⟨_, _, _, _, _, rfl⟩

set_option maxRecDepth 100000 in
theorem world_open {H : Type} {enc : TypeId × Value → H} {w : World} {base : Nat} {spare : Nat → Bool} {held : Bool} {v : Value} {d : DataW H} {p : List MemPlace} {b0 : Nat} (hv : Value.okWide Tryz.prog w .any b0 29 v) (h : DataW.Trod enc Tryz.prog w base spare held 29 v d p) :
    ∃ a1 n1 c1 v2, v = .agg #[.slice a1 n1 c1, v2] ∧ FunsAtW w v2 := by
  obtain ⟨cs, rfl, hs⟩ := okWide_struct Tryz.underlying29 hv
  rw [cells29] at hs
  obtain ⟨l⟩ := cs
  match l, hs with
  | [a, b], _ =>
    obtain ⟨fuel, hf⟩ := h
    obtain ⟨f0, f1, hu, ⟨t0, o0⟩, ⟨t1, o1⟩⟩ := struct29
    obtain ⟨ys, n, _, _, _, hlen, hg⟩ := DataW.trod_struct hu hf
    match ys, hlen with
    | [y0, y1], _ =>
      have g0 := hg 0 f0 rfl
      have g1 := hg 1 f1 rfl
      rw [t0, o0, c26] at g0
      rw [t1, o1, c27] at g1
      simp [Value.cells] at g0 g1
      obtain ⟨a1, n1, c1, rfl⟩ := slice_shape Tryz.underlying26 g0
      exact ⟨a1, n1, c1, b, rfl, funs_open g1⟩

set_option maxRecDepth 100000 in
theorem contract (H : Type) (enc : TypeId × Value → H) (W : World) (base : Nat) (args : Array Value) (ds gs : List (DataW H)) (before : List MemPlace)
    (hval : ∀ (j : Nat) t v, Tryz.f5.params[j]? = some t → args[j]? = some v → Value.okWide Tryz.prog W .any base t v)
    (hW : DataW.Whole enc Tryz.prog Tryz.f5.params.toList Rows.answersNoneSpec.vars false W args.toList ds gs before) :
    Calls Tryz.prog 5 args W fun e W' => ∃ v, e = .returned v ∧ Rows.answersNoneSpec.post enc Tryz.prog Tryz.f5 false true false false W args v W' := by
  have hW' := hW
  obtain ⟨p, q, hA0, hV, rfl, hfz, hnd⟩ := hW
  have hA : DataW.TrodAll enc Tryz.prog W 0 (fun _ => true) true Tryz.f5.params.toList args.toList ds p := hA0
  rw [Tryz.params5] at hA hval
  obtain ⟨v0, v1, d0, d1, p0, p1, rfl, rfl, rfl, h0, h1⟩ := trodAll_two hA
  obtain ⟨rfl, rfl⟩ := trodVars_none hV
  clear hA0
  simp only [List.append_nil] at hW'
  have hlt : ∀ x ∈ p0 ++ p1, x.block < W.heap.size := fun x hx => by simpa using hW'.lt x hx
  have h0k := h0
  have h1k := h1
  obtain ⟨s, bo, hi, lo, E, rfl⟩ := val_open (hval 0 51 v0 rfl rfl) h0
  obtain ⟨a1, n1, c1, v2, rfl, hF⟩ := world_open (hval 1 29 v1 rfl rfl) h1
  refine (answersNone_any s bo hi lo E a1 n1 c1 v2 W hF).mono fun e W' ⟨he, hb⟩ => ?_
  subst he
  refine ⟨_, rfl, _, _, p0 ++ p1, [], p0 ++ p1, [], hW', ?_, ?_, rfl, hb.frame _, fun h => by cases h⟩
  · exact trodAll_cons_mk (shut_bool Tryz.underlying4 _) trodAll_mk0
  · exact trodAll_mk2 (Below.trod laidOut (by kernel_rfl) (of_decide_eq_true (by kernel_rfl)) h0k hb (fun x hx => hlt x (List.mem_append_left _ hx))) (Below.trod laidOut (by kernel_rfl) (of_decide_eq_true (by kernel_rfl)) h1k hb (fun x hx => hlt x (List.mem_append_right _ hx)))
end Go.Proofs.YtjdgfdpbiidldaaGreatDoor.answersNone
