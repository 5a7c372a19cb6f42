/- The walk of great. -/
import Derived.Test.YtimndkjgagdphaaOpen
namespace Go.Proofs.Ytimndkjgagdphaa
open Go.RowKit
set_option linter.unusedVariables false
set_option linter.unusedSimpArgs false

def GreatR (len : Nat) (v : Nat → AV) (e : Ending) : Prop := ∃ r, e = .returned (.bool r) ∧ (r = false → len ≤ 100 ∧ ∀ i, i < len → (v i).q.size ≤ 100)

set_option maxRecDepth 100000 in
set_option maxHeartbeats 4000000 in
theorem great_calls (A : Option Addr) (len c : Nat) (v : Nat → AV) (w0 w : World) (h : ActsIn w0 A len c v) (hb : Below w0.heap.size w0 w) :
    Calls Try.prog 7 #[.slice A len c] w fun e w' => GreatR len v e ∧ w = w' := by
  have hc := h.le
  have hmx := h.mx
  have HX := Lib.hid h
  have HB := Lib.hid hb
  clear h hb
  by_cases hl : len ≤ 100
  · have hlb : decide ((len : Int) ≤ 100) = true := decide_eq_true (by omega)
    have hlc : decide ((100 : Int) < len) = false := decide_eq_false (by omega)
    go_enter Try.func7, Try.ntmps7
    go_wp2_with fail
    go_loop [3] (fun vi => ∃ i : Int, vi = .int .i64 i ∧ 0 ≤ i ∧ i ≤ len ∧ Hid (∀ j : Nat, (j : Int) < i → (v j).q.size ≤ 100)) (fun vi => len - (intOf vi).toNat)
    case atStart => exact ⟨0, rfl, by omega, by omega, fun j hj => by omega⟩
    case round =>
      obtain ⟨i, rfl, hi0, hi1, HV⟩ := hrel
      by_cases hlt : i < len
      · have hltd : decide (i < (len : Int)) = true := decide_eq_true hlt
        obtain ⟨ad, rfl, c0, c1, c2, c3, c4⟩ := acts_at HX.out HB.out i.toNat (by omega)
        clear c0 c1 c3 c4
        by_cases hs : (100 : Int) < (v i.toNat).q.size
        · have hsb : decide ((100 : Int) < (v i.toNat).q.size) = true := decide_eq_true hs
          clear hs
          go_wp2_with fail
          go_ret
          exact ⟨⟨true, rfl, fun e => by cases e⟩, rfl⟩
        · have hsb : decide ((100 : Int) < (v i.toNat).q.size) = false := decide_eq_false hs
          have HV2 : Hid (∀ j : Nat, (j : Int) < i + 1 → (v j).q.size ≤ 100) := fun j hj => by
            by_cases hji : (j : Int) < i
            · exact HV.out j hji
            · have : j = i.toNat := by omega
              rw [this]; omega
          clear hs HV
          go_wp2_with fail
          go_round
          case rel => exact ⟨i + 1, rfl, by omega, by omega, HV2.out⟩
          case measure => simp [intOf]; omega
      · have hltd : decide (i < (len : Int)) = false := decide_eq_false hlt
        go_wp2_with fail
        go_ret
        exact ⟨⟨false, rfl, fun _ => ⟨hl, fun j hj => HV.out j (by omega)⟩⟩, rfl⟩
  · have hlb : decide ((len : Int) ≤ 100) = false := decide_eq_false (by omega)
    have hlc : decide ((100 : Int) < len) = true := decide_eq_true (by omega)
    have hlp : decide ((0 : Int) < len) = true := decide_eq_true (by omega)
    go_enter Try.func7, Try.ntmps7
    go_wp2_with fail
    go_loop [3] (fun vi => vi = .int .i64 0) (fun vi => 0)
    case atStart => rfl
    case round =>
      obtain rfl := hrel
      go_wp2_with fail
      go_ret
      exact ⟨⟨true, rfl, fun e => by cases e⟩, rfl⟩
end Go.Proofs.Ytimndkjgagdphaa
