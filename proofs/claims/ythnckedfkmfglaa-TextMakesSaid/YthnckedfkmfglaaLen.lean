/- The walk of text.Len, Word and Asked: Len answers lenOf; the world has new blocks alone. -/
import Derived.Test.YthnckedfkmfglaaProg
import Derived.Test.YthnckedfkmfglaaPlain
import Derived.WalkKit
import Derived.KernelRfl
import Derived.RowKit3
import Derived.Lib.Hide
namespace Go.Proofs.Ythnckedfkmfglaa
open Go.RowKit
set_option linter.unusedVariables false
set_option linter.unusedSimpArgs false

theorem below_iter (w : World) (s : ByteArray) (p : Nat) : Below w.heap.size w (w.iter s p) := (Below.refl _ w).alloc (Nat.le_refl _) _

set_option maxRecDepth 100000 in
set_option maxHeartbeats 1000000 in
theorem len_calls (s : ByteArray) (w : World) (hs : s.size ≤ 140737488351232) :
    Calls Try.prog 16 #[.string s] w fun e w' => e = .returned (.int .i64 (lenOf s)) ∧ Below w.heap.size w w' := by
  rw [← lenOf_eq]
  go_enter Try.func16, Try.ntmps16
  go_wp2
  go_loopw [3] (fun n w' => ∃ (pos b : Nat) (acc : Int), w' = w.iter s pos ∧ n = .int .i64 acc ∧ Hid (lenFrom s b pos acc = lenFrom s s.size 0 0) ∧ s.size ≤ pos + b ∧ 0 ≤ acc ∧ acc ≤ pos) (fun _ w' => s.size - w'.iterPos w.heap.size)
  case atStart => exact ⟨0, s.size, 0, rfl, rfl, rfl, by omega, by omega, by omega⟩
  case round =>
    obtain ⟨pos, b, acc, rfl, rfl, hc, hb, ha0, ha1⟩ := hrel
    by_cases hp : pos < s.size
    · have hwd := Lib.decode_width_pos s pos hp
      have hnx : ∀ ty, (Instr.next (.pointer (some ⟨w.heap.size, 0, none⟩)) true ty).run Try.prog (w.iter s pos) = _ := fun ty => run_next_any w s pos ty hp
      cases b with
      | zero => omega
      | succ b =>
      by_cases h5 : (Utf8.decode s pos).1 = 65533
      · have hcc : lenFrom s s.size 0 0 = -1 := by rw [← hc.out]; unfold lenFrom; rw [if_pos hp, if_pos h5]
        have h5b : (((Utf8.decode s pos).1 : Int) == 65533) = true := by rw [h5]; rfl
        have HC := Lib.hid hcc
        clear hcc h5 hc
        go_wp2
        go_ret
        rw [HC.out]
        exact ⟨rfl, below_iter _ _ _⟩
      · have hcc : lenFrom s b (pos + (Utf8.decode s pos).2) (acc + 1) = lenFrom s s.size 0 0 := by
          rw [← hc.out]; conv => rhs; unfold lenFrom
          rw [if_pos hp, if_neg h5]
        have h5b : (((Utf8.decode s pos).1 : Int) == 65533) = false := by rw [beq_eq_false_iff_ne]; omega
        have HC := Lib.hid hcc
        clear hcc h5 hc
        go_wp2
        go_roundw
        case rel => exact ⟨pos + (Utf8.decode s pos).2, b, acc + 1, rfl, rfl, HC.out, by omega, by omega, by omega⟩
        case measure => simp; omega
    · have hnx : ∀ ty, (Instr.next (.pointer (some ⟨w.heap.size, 0, none⟩)) true ty).run Try.prog (w.iter s pos) = _ := fun ty => run_next_end w s pos ty hp
      have hcc : lenFrom s s.size 0 0 = acc := by rw [← hc.out, lenFrom_end s b pos acc hp]
      have HC := Lib.hid hcc
      clear hcc hc
      go_wp2
      go_ret
      rw [HC.out]
      exact ⟨rfl, below_iter _ _ _⟩
end Go.Proofs.Ythnckedfkmfglaa
