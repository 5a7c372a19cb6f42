/- The walk of the law TextCompares: it returns true. -/
import Derived.Test.YthnckedfkmfglaaAwake
import Derived.Test.YthnckedfkmfglaaCmp
namespace Go.Proofs.Ythnckedfkmfglaa
open Go.RowKit Go.Proofs.YthnckedfkmfglaaW.PrintWords Go.Proofs.YthnckedfkmfglaaW.PrintLast
set_option linter.unusedVariables false
set_option linter.unusedSimpArgs false

set_option maxRecDepth 100000 in
set_option maxHeartbeats 2000000 in
theorem compares_walk (a b : ByteArray) (ha : a.size ≤ 140737488351232) (hb : b.size ≤ 140737488351232) (w : World) :
    Calls Try.prog 3 #[.string a, .string b] w fun e w' => e = .returned (.bool true) ∧ Below w.heap.size w w' := by
  by_cases h1 : (300 : Int) < a.size
  · have h1b : decide ((300 : Int) < a.size) = true := decide_eq_true h1
    go_enter Try.func3, Try.ntmps3
    go_wp2_with (go_at_call 10; refine (awake_calls _).mono ?_; rintro e w' ⟨rfl, hb1⟩; have HB := Lib.hid hb1; clear hb1)
    go_ret
    exact ⟨rfl, HB.out⟩
  · have h1b : decide ((300 : Int) < a.size) = false := decide_eq_false h1
    by_cases h2 : (300 : Int) < b.size
    · have h2b : decide ((300 : Int) < b.size) = true := decide_eq_true h2
      go_enter Try.func3, Try.ntmps3
      go_wp2_with (go_at_call 10; refine (awake_calls _).mono ?_; rintro e w' ⟨rfl, hb1⟩; have HB := Lib.hid hb1; clear hb1)
      go_ret
      exact ⟨rfl, HB.out⟩
    · have h2b : decide ((300 : Int) < b.size) = false := decide_eq_false h2
      have hn := cmp_neg a.data.toList b.data.toList
      have hs := cmp_self a.data.toList
      have hbd := cmp_bd a.data.toList b.data.toList
      have hr := ref_compare_f a b (by omega)
      have c1 := compare_calls a b
      have c2 := compare_calls b a
      have c3 := compare_calls a a
      have c4 := fun W => PTextCompares.inkhornref1_Compare.calls _ a b _ W hr
      rw [hn] at c2
      rw [hs] at c3
      generalize Lib.compareBytes a.data.toList b.data.toList = c at *
      obtain ⟨hbd1, hbd2⟩ := hbd
      have C1 := Lib.hid c1
      have C2 := Lib.hid c2
      have C3 := Lib.hid c3
      have C4 := Lib.hid c4
      clear hn hs hr c1 c2 c3 c4
      go_enter Try.func3, Try.ntmps3
      go_wp2_with fail
      refine (C1.out _).mono ?_
      rintro e w' ⟨rfl, rfl⟩
      go_wp2_with fail
      refine (C4.out _).mono ?_
      rintro e w' ⟨rfl, ⟨n1, rfl⟩⟩
      go_wp2_with fail
      refine (C2.out _).mono ?_
      rintro e w' ⟨rfl, rfl⟩
      go_wp2_with fail
      refine (C4.out _).mono ?_
      rintro e w' ⟨rfl, ⟨n2, rfl⟩⟩
      go_wp2_with fail
      refine (C3.out _).mono ?_
      rintro e w' ⟨rfl, rfl⟩
      go_wp2_with fail
      refine (awake_calls _).mono ?_
      rintro e w' ⟨rfl, hb1⟩
      have HB := Lib.hid hb1
      clear hb1
      go_wp2_with fail
      go_ret
      refine ⟨by simp, ?_⟩
      exact (pw_below_drewN (Below.refl _ _) _).trans HB.out
end Go.Proofs.Ythnckedfkmfglaa
