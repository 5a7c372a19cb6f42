/- The walk of SlotsNone. -/
import Derived.Test.YtimndkjgagdphaaOpen
namespace Go.Proofs.Ytimndkjgagdphaa
open Go.RowKit
set_option linter.unusedVariables false
set_option linter.unusedSimpArgs false

set_option maxRecDepth 100000 in
set_option maxHeartbeats 4000000 in
theorem none_walk (b : Bool) (id : Int) (q : ByteArray) (k n : Int) (w : World) :
    Calls Try.prog 6 #[.agg #[.bool b, .int .i64 id, .string q, .int .i64 k, .int .i64 n]] w fun e w' => e = .returned (.bool true) ∧ Below w.heap.size w w' := by
  have HB0 := Lib.hid (below_al w (.cells #[.bool b, .int .i64 id, .string q, .int .i64 k, .int .i64 n] 34 (0, 0)))
  have HX := Lib.hid (new_block w (.cells #[.bool b, .int .i64 id, .string q, .int .i64 k, .int .i64 n] 34 (0, 0)))
  by_cases hl : (100 : Int) < q.size
  · have hlb : decide ((100 : Int) < q.size) = true := decide_eq_true hl
    go_enter Try.func6, Try.ntmps6
    go_wp2_with fail
    refine (awake_calls _).mono ?_
    rintro e w3 ⟨rfl, hb3⟩
    have HB3 := Lib.hid hb3
    clear hb3
    go_wp2_with fail
    go_ret
    exact ⟨rfl, below_step0 HB0.out HB3.out⟩
  · have hlb : decide ((100 : Int) < q.size) = false := decide_eq_false hl
    go_enter Try.func6, Try.ntmps6
    go_wp2_with fail
    refine (submit_nil q k n _).mono ?_
    rintro e w1 ⟨rfl, hb1⟩
    have h1 := (hb1.block w.heap.size (lt_of_block HX.out)).trans HX.out
    have HB1 := Lib.hid hb1
    have c1 : w1.cell? ⟨w.heap.size, 1, none⟩ = some (.int .i64 id) := by simp [World.cell?, h1]
    clear hb1 h1
    go_wp2_with fail
    refine (of_nil id _).mono ?_
    rintro e w' ⟨rfl, rfl⟩
    go_wp2_with fail
    refine (at_nil id _).mono ?_
    rintro e w' ⟨rfl, rfl⟩
    go_wp2_with fail
    refine (free_nil id _).mono ?_
    rintro e w' ⟨rfl, rfl⟩
    go_wp2_with fail
    refine (count_nil _).mono ?_
    rintro e w' ⟨rfl, rfl⟩
    go_wp2_with fail
    refine (last_nil _).mono ?_
    rintro e w' ⟨rfl, rfl⟩
    go_wp2_with fail
    refine (awake_calls _).mono ?_
    rintro e w3 ⟨rfl, hb3⟩
    have HB3 := Lib.hid hb3
    clear hb3
    go_wp2_with fail
    go_ret
    exact ⟨rfl, below_step0 (below_step0 HB0.out HB1.out) HB3.out⟩
theorem none_walk2 (v : AV) (w : World) :
    Calls Try.prog 6 #[.agg #[.bool v.b, .int .i64 v.id, .string v.q, .int .i64 v.k, .int .i64 v.n]] w fun e w' => e = .returned (.bool true) ∧ Below w.heap.size w w' := none_walk v.b v.id v.q v.k v.n w
end Go.Proofs.Ytimndkjgagdphaa
