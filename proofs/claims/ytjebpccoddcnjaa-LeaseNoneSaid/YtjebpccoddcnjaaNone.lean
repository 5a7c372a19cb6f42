/- The walk of LeaseNone. -/
import Derived.Test.YtjebpccoddcnjaaOpen
namespace Go.Proofs.Ytjebpccoddcnjaa
open Go.RowKit
set_option linter.unusedVariables false
set_option linter.unusedSimpArgs false
set_option maxRecDepth 100000 in
set_option maxHeartbeats 4000000 in
theorem none_walk (b : Bool) (u v t : Int) (w : World) :
    Calls Try.prog 7 #[.agg #[.bool b, .int .i64 u, .int .i64 v, .int .i64 t]] w fun e w' => e = .returned (.bool true) ∧ Below w.heap.size w w' := by
  have HB0 := Lib.hid (Joins.below_alloc1 w (.cells #[.bool b, .int .i64 u, .int .i64 v, .int .i64 t] 43 (0, 0)))
  go_enter Try.func7, Try.ntmps7
  go_wp2_with fail
  refine (hello_nil u v t _).mono ?_
  rintro e w' ⟨rfl, rfl⟩
  go_wp2_with fail
  refine (seen_nil u v t _).mono ?_
  rintro e w' ⟨rfl, rfl⟩
  go_wp2_with fail
  refine (live_nil u t _).mono ?_
  rintro e w' ⟨rfl, rfl⟩
  go_wp2_with fail
  refine (epoch_nil u _).mono ?_
  rintro e w' ⟨rfl, rfl⟩
  go_wp2_with fail
  refine (life_nil u _).mono ?_
  rintro e w' ⟨rfl, rfl⟩
  go_wp2_with fail
  refine (awake_calls _).mono ?_
  rintro e w3 ⟨rfl, hb3⟩
  have HB3 := Lib.hid hb3
  clear hb3
  go_wp2_with fail
  go_ret
  exact ⟨rfl, Go.Proofs.YtjebpccoddcnjaaW.PrintWords.below_step HB0.out HB3.out⟩
end Go.Proofs.Ytjebpccoddcnjaa
