/-
  Layer 27 (answers): a name's text, at a plain name. Conditions: the text's own size.
-/
import Derived.Test.YtjdgfdpbiidldaaGreatDoorTr3
import Derived.Test.YtjdgfdpbiidldaaGreatDoorTab3
namespace Go.Proofs.YtjdgfdpbiidldaaGreatDoor
open Go.RowKit

set_option maxHeartbeats 1000000 in
set_option maxRecDepth 100000 in
theorem name_plain (s : ByteArray) (w : World) (hl : s.size ≤ 1048576) (hp : plainB s.toList = true) :
    Calls Tryz.prog 63 #[.string s] w fun e w' => e = .returned (.string s) ∧ Below w.heap.size w w' := by
  have ht := fun w => text_leaf ⟨false, 3, s, 0, none, 0, 0, false, true, 0⟩ s true w rfl rfl rfl rfl rfl (by omega) (fun W => token_plain s 0 W hl hp)
  have hn : ¬ 1048576 < s.size := by omega
  simp only [PartD.tree, if_true, hn, if_false] at ht
  have Ht := Lib.hid ht
  clear ht hl hp hn
  go_enter Tryz.func63, Tryz.ntmps63
  go_wp2_with (go_at_call 58; refine (Ht.out _).mono ?_; rintro e w1 ⟨rfl, hb1⟩)
  go_ret
  exact ⟨rfl, hb1⟩

set_option maxHeartbeats 1000000 in
set_option maxRecDepth 100000 in
/-- no table: no text -/
theorem value_nil (i : Int) (rest : List Value) (w : World) (v : Array Value) (hv : v = (Value.int .i64 i :: rest).toArray) (h5 : rest.length = 4) :
    Calls Tryz.prog 18 #[.pointer none, .agg v] w fun e w' => e = .returned (.tuple #[.string ⟨#[]⟩, .int .i64 1]) ∧ Below w.heap.size w w' := by
  match rest, h5 with
  | [a, b, c, d], _ =>
    subst hv
    go_enter Tryz.func18, Tryz.ntmps18
    go_wp2_with (go_at_call 60; refine (sortName_nil i _).mono ?_; rintro e w' ⟨rfl, rfl⟩)
    go_ret2
    exact ⟨rfl, (Below.refl _ w).alloc (Nat.le_refl _) _⟩

theorem decD_small : ∀ E, E < 100 → (⟨(Lib.decDigits E).toArray⟩ : ByteArray).size ≤ 100 := by decide +kernel

set_option maxHeartbeats 1000000 in
set_option maxRecDepth 100000 in
/-- an element's text, at a small number and a plain name -/
theorem value_elem (B b : Nat) (T : TabD) (s : Int) (nm : ByteArray) (bo : Bool) (hi lo : Int) (E : Nat) (w : World) (h : IsTab w B b T) (hs1 : s ≤ 9223372036854775807) (hs0 : (s == 0) = false) (hs2 : (s == 1) = false) (hnm : T.sortName s = (nm, 0)) (hl : nm.size ≤ 1048576) (hp : plainB nm.toList = true) (hE : E < 100) :
    Calls Tryz.prog 18 #[.pointer (some ⟨b, 0, none⟩), .agg #[.int .i64 s, .bool bo, .int .i64 hi, .int .i64 lo, .int .i64 E]] w fun e w' => e = .returned (.tuple #[.string (⟨#[40, 97, 115, 32, 64]⟩ ++ ⟨(Lib.decDigits E).toArray⟩ ++ ⟨#[32]⟩ ++ nm ++ ⟨#[41]⟩), .int .i64 0]) ∧ Below w.heap.size w w' := by
  have hsn := sortName_any B b T s
  rw [hnm] at hsn
  have hnp := fun w => name_plain nm w hl hp
  obtain ⟨D, hD⟩ : ∃ D : ByteArray, D = ⟨(Lib.decDigits E).toArray⟩ := ⟨_, rfl⟩
  have hDs : D.size ≤ 100 := by rw [hD]; exact decD_small E hE
  have hfi : ∀ w, Calls Tryz.prog 62 #[.int .i64 E, .int .i64 10] w fun e w' => e = .returned (.string D) ∧ w' = w := by rw [hD]; exact Tryz.strconv_FormatInt_10_small E hE
  rw [← hD]
  clear hD
  have htb : ∀ o, IsTab (w.alloc o) B b T := fun o => h.keeps (ts := []) (Below.keeps_all ((Below.refl _ w).alloc (Nat.le_refl _) o) [] false) (by simp) (by simp) (by simp) (by simp)
  have hs1b : (s != 1) = true := by simp [bne, hs2]
  have Hsn := Lib.hid hsn
  have Hnp := Lib.hid hnp
  have Hfi := Lib.hid hfi
  have Htb := Lib.hid htb
  have Hs1 := Lib.hid hs1
  clear hsn hnp hfi htb h hs1 hnm hp
  go_enter Tryz.func18, Tryz.ntmps18
  go_wp2_with (first | (go_at_call 60; refine (Hsn.out _ (Htb.out _) Hs1.out).mono ?_; rintro e w1 ⟨rfl, rfl⟩) | (go_at_call 62; refine (Hfi.out _).mono ?_; rintro e w2 ⟨rfl, rfl⟩) | (go_at_call 63; refine (Hnp.out _).mono ?_; rintro e w3 ⟨rfl, hb3⟩))
  go_ret2
  exact ⟨rfl, ((Below.refl _ w).alloc (Nat.le_refl _) _).trans (hb3.mono (by simp))⟩
end Go.Proofs.YtjdgfdpbiidldaaGreatDoor
