/- Plain law: Low answers a number from 0 to below n. -/
import Derived.Test.YthnckedfkmfglaaPTextSpoiltx1
namespace Go.Proofs.Ythnckedfkmfglaa
open Go.RowKit Go.Proofs.YthnckedfkmfglaaW.PrintWords Go.Proofs.YthnckedfkmfglaaW.PrintLast

theorem low_some (x n : Int) (h1 : 1 ≤ n) (h2 : n ≤ 1000000) : ∃ r, PTextSpoilt.inkhornlaw0_Low.f x n = some r ∧ 0 ≤ r ∧ r < n := by
  unfold PTextSpoilt.inkhornlaw0_Low.f
  have e : IntKind.u64.wrap n = n := by
    unfold IntKind.wrap
    simp [IntKind.bits, IntKind.signed]
    omega
  have e2 : 0 ≤ IntKind.u64.wrap x := by
    unfold IntKind.wrap
    simp [IntKind.bits, IntKind.signed]
    omega
  rw [e, if_neg (by omega)]
  generalize IntKind.u64.wrap x = u at *
  have hm := Int.tmod_eq_emod_of_nonneg e2 (b := n)
  rw [hm]
  have h3 := Int.emod_nonneg u (by omega : n ≠ 0)
  have h4 := Int.emod_lt_of_pos u (by omega : 0 < n)
  have hw : wrap64 (u % n) = u % n := by unfold wrap64; omega
  exact ⟨_, rfl, by rw [hw]; exact h3, by rw [hw]; exact h4⟩
end Go.Proofs.Ythnckedfkmfglaa
