/- Of none; awake. -/
import Derived.Test.YtimndkjgagdphaaSubmit
namespace Go.Proofs.Ytimndkjgagdphaa
open Go.RowKit
set_option linter.unusedVariables false
set_option linter.unusedSimpArgs false

theorem of_nil (id : Int) (w : World) : Calls Try.prog 19 #[.pointer none, .int .i64 id] w fun e w' => e = .returned (.tuple #[.int .i64 0, .bool false]) ∧ w = w' := by
  go_enter Try.func19, Try.ntmps19
  go_wp2_with fail
  go_ret2
  exact ⟨rfl, rfl⟩
theorem at_nil (id : Int) (w : World) : Calls Try.prog 21 #[.pointer none, .int .i64 id] w fun e w' => e = .returned (.tuple #[.int .i64 0, .bool false]) ∧ w = w' := by
  go_enter Try.func21, Try.ntmps21
  go_wp2_with fail
  go_ret2
  exact ⟨rfl, rfl⟩
theorem count_nil (w : World) : Calls Try.prog 22 #[.pointer none] w fun e w' => e = .returned (.int .i64 0) ∧ w = w' := by
  go_enter Try.func22, Try.ntmps22
  go_wp2_with fail
  go_ret
  exact ⟨rfl, rfl⟩
theorem last_nil (w : World) : Calls Try.prog 14 #[.pointer none] w fun e w' => e = .returned (.int .i64 0) ∧ w = w' := by
  go_enter Try.func14, Try.ntmps14
  go_wp2_with fail
  go_ret
  exact ⟨rfl, rfl⟩
set_option maxRecDepth 100000 in
theorem free_nil (id : Int) (w : World) : Calls Try.prog 11 #[.pointer none, .int .i64 id] w fun e w' => e = .returned (.bool false) ∧ w = w' := by
  go_enter Try.func11, Try.ntmps11
  go_wp2_with (go_at_call 19; refine (of_nil id _).mono ?_; rintro e w' ⟨rfl, rfl⟩)
  go_ret
  exact ⟨rfl, rfl⟩

def QAt (w : World) (g : Nat) (s : ByteArray) (k n : Int) : Prop := w.heap[g]? = some (.cells #[.string s, .int .i64 k, .int .i64 n] 32 (0, 0))
theorem qat_cells {w : World} {g : Nat} {s : ByteArray} {k n : Int} (h : QAt w g s k n) : w.cell? ⟨g, 0, none⟩ = some (.string s) ∧ w.cell? ⟨g, 1, none⟩ = some (.int .i64 k) ∧ w.cell? ⟨g, 2, none⟩ = some (.int .i64 n) := by
  unfold QAt at h
  refine ⟨?_, ?_, ?_⟩ <;> simp [World.cell?, h]
theorem qat_chg {w w1 : World} {g lo hi : Nat} {s : ByteArray} {k n : Int} (h : QAt w g s k n) (hc : Chg lo hi w w1) (hg : g < lo ∨ hi ≤ g) : QAt w1 g s k n := (hc.block g (lt_of_block h) hg).trans h

theorem may_a : mayB ⟨#[97]⟩ 1 1 = true := by decide +kernel
theorem may_e : mayB ⟨#[]⟩ 0 0 = false := by decide +kernel
def t0 : SS := SS.init 1
def t1 : SS := t0.put
theorem u1 : t0.submit true = (t1, 3, 1, 0) := by rfl
theorem u2 : t1.submit true = (t1, 2, 0, 0) := by rfl
theorem u3 (s : SS) : s.submit false = (s, 1, 0, 0) := by rfl
theorem u4 : (t1.find 1).isSome = true := by rfl
theorem u5 : t1.last = 1 := by rfl

set_option maxRecDepth 100000 in
set_option maxHeartbeats 4000000 in
theorem awake_calls (w : World) : Calls Try.prog 8 #[] w fun e w' => e = .returned (.bool true) ∧ Below w.heap.size w w' := by
  go_enter Try.func8, Try.ntmps8
  go_wp2_with fail
  refine (new_calls 1 (by omega) (by omega) _).mono ?_
  rintro e w1 ⟨h, rfl, hh, hS, hb⟩
  have HB1 := Lib.hid hb
  have HHH := Lib.hid hh
  have HX : Hid (QAt (w1.alloc (.cells #[.string ⟨#[97]⟩, .int .i64 1, .int .i64 1] 32 (0, 0))) w1.heap.size ⟨#[97]⟩ 1 1) := new_block w1 _
  have HS1 : Hid (IsS (w1.alloc (.cells #[.string ⟨#[97]⟩, .int .i64 1, .int .i64 1] 32 (0, 0))) h t0) := isS_below hS (below_al _ _)
  have HB2 := Lib.hid (below_step0 hb (below_al w1 (.cells #[.string ⟨#[97]⟩, .int .i64 1, .int .i64 1] 32 (0, 0))))
  have HSZ := Lib.hid (isS_lt hS)
  clear hb hh hS
  go_wp2_with fail
  refine (submit_calls h t0 ⟨#[97]⟩ 1 1 _ (by decide) (by decide) HS1.out).mono ?_
  rw [may_a, u1]
  rintro e w2 ⟨rfl, hS, hC⟩
  have HS2 := Lib.hid hS
  have HC2 := Lib.hid hC
  have HX2 := Lib.hid (qat_chg HX.out hC (.inr HSZ.out))
  clear hS hC
  obtain ⟨c0, c1, c2⟩ := qat_cells HX2.out
  go_wp2_with fail
  refine (submit_calls h t1 ⟨#[97]⟩ 1 1 _ (by decide) (by decide) HS2.out).mono ?_
  rw [may_a, u2]
  rintro e w3 ⟨rfl, hS, hC⟩
  have HS3 := Lib.hid hS
  have HC3 := Lib.hid hC
  clear hS hC
  go_wp2_with fail
  refine (submit_calls h t1 ⟨#[]⟩ 0 0 _ (by decide) (by decide) HS3.out).mono ?_
  rw [may_e, u3]
  rintro e w4 ⟨rfl, hS, hC⟩
  have HS4 := Lib.hid hS
  have HC4 := Lib.hid hC
  clear hS hC
  go_wp2_with fail
  refine (free_calls h t1 1 _ HS4.out).mono ?_
  rw [u4]
  rintro e w5 ⟨rfl, hS, hC⟩
  have HS5 := Lib.hid hS
  have HC5 := Lib.hid hC
  clear hS hC
  go_wp2_with fail
  refine (last_calls h _ _ HS5.out).mono ?_
  rw [show (t1.free 1).last = 1 from rfl]
  rintro e w6 ⟨rfl, rfl⟩
  go_wp2_with fail
  go_ret
  exact ⟨rfl, below_chg HB2.out (((HC2.out.trans HC3.out).trans HC4.out).trans HC5.out) HHH.out⟩
end Go.Proofs.Ytimndkjgagdphaa
