/-
  AnswersRead: the row's contract. Conditions: the row's own.
-/
import Derived.Test.YtjdgfdpbiidldaaGreatDoorCards
import Derived.Test.YtjdgfdpbiidldaaGreatDoorTie
import Derived.Test.YtjdgfdpbiidldaaGreatDoorRdM12
import Derived.WalkKit
import Derived.ProofKit
import Derived.OpenShut
import Derived.Deep.DeepHandedRow
import Derived.Deep.DeepWitnessRowRef
import Derived.MakeChecks
import Derived.Lib.LaidTab
import Derived.Lib.LaidU8
import Derived.Lay
import Derived.Carry
namespace Go.Proofs.YtjdgfdpbiidldaaGreatDoor.answersRead
open Go.ChangeShapes Go.WideShapes Go.ChangeAt Go.RowKit

theorem own : ownKnob Tryz.prog.godebug = none := by kernel_rfl
theorem laidOut : laidOutB Tryz.prog = true := by kernel_rfl
theorem cells51 : Tryz.prog.cellsOf 51 = 5 := by kernel_rfl

theorem struct51 : ∃ f0 f1 f2 f3, Tryz.prog.underlying 51 = some (.struct #[f0, f1, f2, f3]) ∧ (f0.type = 47 ∧ f0.offset = 0) ∧ (f1.type = 4 ∧ f1.offset = 1) ∧ (f2.type = 49 ∧ f2.offset = 2) ∧ (f3.type = 2 ∧ f3.offset = 4) := ⟨_, _, _, _, Tryz.underlying51, ⟨rfl, rfl⟩, ⟨rfl, rfl⟩, ⟨rfl, rfl⟩, ⟨rfl, rfl⟩⟩
theorem struct49 : ∃ f0 f1, Tryz.prog.underlying 49 = some (.struct #[f0, f1]) ∧ (f0.type = 2 ∧ f0.offset = 0) ∧ (f1.type = 2 ∧ f1.offset = 1) := ⟨_, _, Tryz.underlying49, ⟨rfl, rfl⟩, ⟨rfl, rfl⟩⟩
theorem c47 : Tryz.prog.cellsOf 47 = 1 := by kernel_rfl
theorem c4 : Tryz.prog.cellsOf 4 = 1 := by kernel_rfl
theorem c49 : Tryz.prog.cellsOf 49 = 2 := by kernel_rfl
theorem c2 : Tryz.prog.cellsOf 2 = 1 := by kernel_rfl

theorem wf64 {n : Int} (h : (Lit.int .i64 n).wf = true) : -9223372036854775808 ≤ n ∧ n ≤ 9223372036854775807 := by simpa [Lit.wf, IntKind.min, IntKind.max, IntKind.signed, IntKind.bits] using h

set_option maxRecDepth 100000 in
theorem val_open {H : Type} {enc : TypeId × Value → H} {w : World} {base : Nat} {spare : Nat → Bool} {held : Bool} {v : Value} {d : DataW H} {p : List MemPlace} {b0 : Nat} (hv : Value.okWide Tryz.prog w .any b0 51 v) (h : DataW.Trod enc Tryz.prog w base spare held 51 v d p) :
    ∃ s bo hi lo E, v = .agg #[.int .i64 s, .bool bo, .int .i64 hi, .int .i64 lo, .int .i64 E] ∧ (-9223372036854775808 ≤ s ∧ s ≤ 9223372036854775807) ∧ (-9223372036854775808 ≤ hi ∧ hi ≤ 9223372036854775807) ∧ (-9223372036854775808 ≤ lo ∧ lo ≤ 9223372036854775807) := by
  obtain ⟨cs, rfl, hs⟩ := okWide_struct Tryz.underlying51 hv
  rw [cells51] at hs
  obtain ⟨l⟩ := cs
  match l, hs with
  | [a, b, c, d, e], _ =>
    obtain ⟨fuel, hf⟩ := h
    obtain ⟨f0, f1, f2, f3, hu, ⟨t0, o0⟩, ⟨t1, o1⟩, ⟨t2, o2⟩, ⟨t3, o3⟩⟩ := struct51
    obtain ⟨ys, n, _, _, _, hlen, hg⟩ := DataW.trod_struct hu hf
    match ys, hlen with
    | [y0, y1, y2, y3], _ =>
      have g0 := hg 0 f0 rfl
      have g1 := hg 1 f1 rfl
      have g2 := hg 2 f2 rfl
      have g3 := hg 3 f3 rfl
      rw [t0, o0, c47] at g0
      rw [t1, o1, c4] at g1
      rw [t2, o2, c49] at g2
      rw [t3, o3, c2] at g3
      simp [Value.cells] at g0 g1 g2 g3
      obtain ⟨s, hs, _, ws⟩ := DataW.trod_int Tryz.underlying47 g0
      obtain ⟨bo, hb, _⟩ := DataW.trod_bool Tryz.underlying4 g1
      obtain ⟨E, hE, _⟩ := DataW.trod_int Tryz.underlying2 g3
      obtain ⟨k0, k1, hu2, ⟨u0, q0⟩, ⟨u1, q1⟩⟩ := struct49
      obtain ⟨zs, n2, _, _, _, hlen2, hg2⟩ := DataW.trod_struct hu2 g2
      match zs, hlen2 with
      | [z0, z1], _ =>
        have e0 := hg2 0 k0 rfl
        have e1 := hg2 1 k1 rfl
        rw [u0, q0, c2] at e0
        rw [u1, q1, c2] at e1
        simp at e0 e1
        obtain ⟨hi, hhi, _, whi⟩ := DataW.trod_int Tryz.underlying2 e0
        obtain ⟨lo, hlo, _, wlo⟩ := DataW.trod_int Tryz.underlying2 e1
        simp at hs hb hE hhi hlo
        subst hs hb hE hhi hlo
        exact ⟨_, _, _, _, _, rfl, wf64 ws, wf64 whi, wf64 wlo⟩

theorem rangeNamed : Tryz.prog.globalNamed "strconv.ErrRange" = some 9 := by kernel_rfl
theorem rangeType : (Tryz.prog.globals[9]?).map (·.type) = some 247 := by kernel_rfl
theorem errorType : ∃ ms, Tryz.prog.underlying 247 = some (.interface ms) := ⟨_, Tryz.underlying247⟩

theorem errLaid_of {W : World} {l : List (String × DataW Unit)} (h : laidMet Tryz.prog l W) (hm : ("strconv.ErrRange", Rows.laid_strconv_ErrRange) ∈ l) : ErrLaid W W.heap.size := by
  obtain ⟨g, t, cs, fuel, p, h1, h2, h3, h4⟩ := Lib.laidMet.reads h hm
  have h5 := rangeType
  obtain ⟨ms, h6⟩ := errorType
  obtain rfl := Option.some.inj (rangeNamed.symm.trans h1)
  obtain rfl := Option.some.inj (h5.symm.trans h2)
  obtain ⟨f', u, v, hcs, _, _⟩ := iface_of_trod h6 h4
  have hc := World.var?_cell rangeNamed h3 0
  have hc0 : cs[0]? = some (.iface u v) := by
    have : cs.toList[0]? = some (.iface u v) := by rw [hcs]; rfl
    simpa using this
  rw [hc0] at hc
  refine ⟨?_, u, v, hc⟩
  rcases Nat.lt_or_ge 9 W.heap.size with h' | h'
  · exact h'
  · simp [World.cell?, Array.getElem?_eq_none h'] at hc

set_option maxRecDepth 100000 in
theorem contract (H : Type) (enc : TypeId × Value → H) (W : World) (base : Nat) (args : Array Value) (ds gs : List (DataW H)) (before : List MemPlace)
    (hval : ∀ (j : Nat) t v, Tryz.f6.params[j]? = some t → args[j]? = some v → Value.okWide Tryz.prog W .any base t v)
    (hW : DataW.Whole enc Tryz.prog Tryz.f6.params.toList Rows.answersReadSpec.vars false W args.toList ds gs before) (hL : laidMet Tryz.prog Rows.answersReadRow.laid W) :
    Calls Tryz.prog 6 args W fun e W' => ∃ v, e = .returned v ∧ Rows.answersReadSpec.post enc Tryz.prog Tryz.f6 false true false false W args v W' := by
  have hW' := hW
  obtain ⟨p, q, hA0, hV, rfl, hfz, hnd⟩ := hW
  have hA : DataW.TrodAll enc Tryz.prog W 0 (fun _ => true) true Tryz.f6.params.toList args.toList ds p := hA0
  rw [Tryz.params6] at hA hval
  obtain ⟨v0, d0, rfl, rfl, h0⟩ := trodAll_one hA
  obtain ⟨rfl, rfl⟩ := trodVars_none hV
  clear hA0
  simp only [List.append_nil] at hW'
  have hlt : ∀ x ∈ p, x.block < W.heap.size := fun x hx => by simpa using hW'.lt x hx
  have h0k := h0
  obtain ⟨s, bo, hi, lo, E, rfl, hs, h1, h2⟩ := val_open (hval 0 51 v0 rfl rfl) h0
  refine (answersRead_any s bo hi lo E W hs.2 h1 h2 (errLaid_of hL (by simp [Rows.answersReadRow]))).mono fun e W' ⟨he, hb⟩ => ?_
  subst he
  refine ⟨_, rfl, _, _, p, [], p, [], hW', ?_, ?_, rfl, hb.frame _, fun h => by cases h⟩
  · exact trodAll_mk1 (shut_bool Tryz.underlying4 _)
  · exact trodAll_mk1 (Below.trod laidOut (by kernel_rfl) (of_decide_eq_true (by kernel_rfl)) h0k hb hlt)
end Go.Proofs.YtjdgfdpbiidldaaGreatDoor.answersRead
