/- The walk of text.Len, Word and Asked: Len answers lenOf; the world has new blocks alone. -/
import Derived.Test.YtimndkjgagdphaaProg
import Derived.Test.YtimndkjgagdphaaPlain
import Derived.WalkKit
import Derived.KernelRfl
import Derived.RowKit3
import Derived.Lib.Hide
namespace Go.Proofs.Ytimndkjgagdphaa
open Go.RowKit
set_option linter.unusedVariables false
set_option linter.unusedSimpArgs false

theorem below_iter (w : World) (s : ByteArray) (p : Nat) : Below w.heap.size w (w.iter s p) := (Below.refl _ w).alloc (Nat.le_refl _) _

set_option maxRecDepth 100000 in
set_option maxHeartbeats 1000000 in
theorem len_calls (s : ByteArray) (w : World) (hs : s.size ≤ 140737488351232) :
    Calls Try.prog 26 #[.string s] w fun e w' => e = .returned (.int .i64 (lenOf s)) ∧ Below w.heap.size w w' := by
  rw [← lenOf_eq]
  go_enter Try.func26, Try.ntmps26
  go_wp2
  go_loopw [3] (fun n w' => ∃ (pos b : Nat) (acc : Int), w' = w.iter s pos ∧ n = .int .i64 acc ∧ Hid (lenFrom s b pos acc = lenFrom s s.size 0 0) ∧ s.size ≤ pos + b ∧ 0 ≤ acc ∧ acc ≤ pos) (fun _ w' => s.size - w'.iterPos w.heap.size)
  case atStart => exact ⟨0, s.size, 0, rfl, rfl, rfl, by omega, by omega, by omega⟩
  case round =>
    obtain ⟨pos, b, acc, rfl, rfl, hc, hb, ha0, ha1⟩ := hrel
    by_cases hp : pos < s.size
    · have hwd := Lib.decode_width_pos s pos hp
      have hnx : ∀ ty, (Instr.next (.pointer (some ⟨w.heap.size, 0, none⟩)) true ty).run Try.prog (w.iter s pos) = _ := fun ty => run_next_any w s pos ty hp
      cases b with
      | zero => omega
      | succ b =>
      by_cases h5 : (Utf8.decode s pos).1 = 65533
      · have hcc : lenFrom s s.size 0 0 = -1 := by rw [← hc.out]; unfold lenFrom; rw [if_pos hp, if_pos h5]
        have h5b : (((Utf8.decode s pos).1 : Int) == 65533) = true := by rw [h5]; rfl
        have HC := Lib.hid hcc
        clear hcc h5 hc
        go_wp2
        go_ret
        rw [HC.out]
        exact ⟨rfl, below_iter _ _ _⟩
      · have hcc : lenFrom s b (pos + (Utf8.decode s pos).2) (acc + 1) = lenFrom s s.size 0 0 := by
          rw [← hc.out]; conv => rhs; unfold lenFrom
          rw [if_pos hp, if_neg h5]
        have h5b : (((Utf8.decode s pos).1 : Int) == 65533) = false := by rw [beq_eq_false_iff_ne]; omega
        have HC := Lib.hid hcc
        clear hcc h5 hc
        go_wp2
        go_roundw
        case rel => exact ⟨pos + (Utf8.decode s pos).2, b, acc + 1, rfl, rfl, HC.out, by omega, by omega, by omega⟩
        case measure => simp; omega
    · have hnx : ∀ ty, (Instr.next (.pointer (some ⟨w.heap.size, 0, none⟩)) true ty).run Try.prog (w.iter s pos) = _ := fun ty => run_next_end w s pos ty hp
      have hcc : lenFrom s s.size 0 0 = acc := by rw [← hc.out, lenFrom_end s b pos acc hp]
      have HC := Lib.hid hcc
      clear hcc hc
      go_wp2
      go_ret
      rw [HC.out]
      exact ⟨rfl, below_iter _ _ _⟩

theorem asked_calls (s : ByteArray) (w : World) (hs : s.size ≤ 140737488351232) :
    Calls Try.prog 24 #[.string s] w fun e w' => e = .returned (.bool (askedB s)) ∧ Below w.heap.size w w' := by
  have hbd := lenOf_bd s
  have HL := Lib.hid (fun W => len_calls s W hs)
  unfold askedB
  generalize lenOf s = n at *
  cases h1 : decide (0 ≤ n) with
  | false =>
    go_enter Try.func24, Try.ntmps24
    go_wp2_with (go_at_call 26; refine (HL.out _).mono ?_; rintro e w' ⟨rfl, hb1⟩; have HB := Lib.hid hb1; clear hb1)
    go_ret
    exact ⟨rfl, HB.out⟩
  | true =>
    go_enter Try.func24, Try.ntmps24
    go_wp2_with (go_at_call 26; refine (HL.out _).mono ?_; rintro e w' ⟨rfl, hb1⟩; have HB := Lib.hid hb1; clear hb1)
    go_ret
    exact ⟨rfl, HB.out⟩

/-- May a query be? -/
def mayB (s : ByteArray) (k n : Int) : Bool := askedB s && decide (0 ≤ k) && decide (k ≤ 4) && decide (1 ≤ n) && decide (n ≤ 10)

theorem below_step0 {w w1 w2 : World} (h1 : Below w.heap.size w w1) (h2 : Below w1.heap.size w1 w2) : Below w.heap.size w w2 :=
  ⟨h2.os.trans h1.os, h2.tape.trans h1.tape, h2.output.trans h1.output, Nat.le_trans h1.size h2.size, fun k hk => (h2.block k (Nat.lt_of_lt_of_le hk h1.size)).trans (h1.block k hk)⟩
theorem below_al (w : World) (o : Obj) : Below w.heap.size w (w.alloc o) := (Below.refl _ _).alloc (Nat.le_refl _) o

set_option maxRecDepth 100000 in
set_option maxHeartbeats 2000000 in
theorem may_calls (s : ByteArray) (k n : Int) (w : World) (hs : s.size ≤ 140737488351232) :
    Calls Try.prog 13 #[.agg #[.string s, .int .i64 k, .int .i64 n]] w fun e w' => e = .returned (.bool (mayB s k n)) ∧ Below w.heap.size w w' := by
  have HL := Lib.hid (fun W => asked_calls s W hs)
  have HB0 := Lib.hid (below_al w (.cells #[.string s, .int .i64 k, .int .i64 n] 32 (0, 0)))
  have hx : (w.alloc (.cells #[.string s, .int .i64 k, .int .i64 n] 32 (0, 0))).heap[w.heap.size]? = some (.cells #[.string s, .int .i64 k, .int .i64 n] 32 (0, 0)) := by
    show (w.heap.push _)[w.heap.size]? = _
    simp
  have HX := Lib.hid hx
  have hlt : w.heap.size < (w.alloc (.cells #[.string s, .int .i64 k, .int .i64 n] 32 (0, 0))).heap.size := lt_of_block hx
  have HLT := Lib.hid hlt
  clear hx hlt
  unfold mayB
  generalize askedB s = a at *
  cases a with
  | false =>
    simp only [Bool.false_and]
    go_enter Try.func13, Try.ntmps13
    go_wp2_with (go_at_call 24; refine (HL.out _).mono ?_; rintro e w1 ⟨rfl, hb1⟩; have HB := Lib.hid hb1; clear hb1)
    go_ret
    exact ⟨rfl, below_step0 HB0.out HB.out⟩
  | true =>
    simp only [Bool.true_and]
    go_enter Try.func13, Try.ntmps13
    go_wp2_with fail
    refine (HL.out _).mono ?_
    rintro e w1 ⟨rfl, hb1⟩
    have HB := Lib.hid hb1
    have h1 : w1.heap[w.heap.size]? = some (.cells #[.string s, .int .i64 k, .int .i64 n] 32 (0, 0)) := (HB.out.block _ HLT.out).trans HX.out
    clear hb1
    have c1 : w1.cell? ⟨w.heap.size, 1, none⟩ = some (.int .i64 k) := by simp [World.cell?, h1]
    have c2 : w1.cell? ⟨w.heap.size, 2, none⟩ = some (.int .i64 n) := by simp [World.cell?, h1]
    clear h1
    cases h2 : decide (0 ≤ k) with
    | false =>
      go_wp2_with fail
      go_ret
      exact ⟨by rw [h2]; rfl, below_step0 HB0.out HB.out⟩
    | true =>
    cases h3 : decide (k ≤ 4) with
    | false =>
      go_wp2_with fail
      go_ret
      exact ⟨by rw [h2, h3]; rfl, below_step0 HB0.out HB.out⟩
    | true =>
    cases h4 : decide (1 ≤ n) with
    | false =>
      go_wp2_with fail
      go_ret
      exact ⟨by rw [h2, h3, h4]; rfl, below_step0 HB0.out HB.out⟩
    | true =>
      go_wp2_with fail
      go_ret
      exact ⟨by rw [h2, h3, h4]; rfl, below_step0 HB0.out HB.out⟩
end Go.Proofs.Ytimndkjgagdphaa
