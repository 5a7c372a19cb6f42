/- The walks of text.Word, Asked, Compare and Prefix by the contract of Len. -/
import Derived.Test.YthnckedfkmfglaaProg
import Derived.Test.YthnckedfkmfglaaLen
import Derived.Test.YthnckedfkmfglaaShelf
import Derived.WalkKit
import Derived.KernelRfl
import Derived.RowKit3
import Derived.Lib.Hide
import Derived.Lib.OthersKept
import Derived.WalkSmall
namespace Go.Proofs.Ythnckedfkmfglaa
open Go.RowKit
set_option linter.unusedVariables false
set_option linter.unusedSimpArgs false

set_option maxRecDepth 100000 in
set_option maxHeartbeats 1000000 in
theorem word_calls (s : ByteArray) (w : World) (hs : s.size ≤ 140737488351232) :
    Calls Try.prog 18 #[.string s] w fun e w' => e = .returned (.bool (wordB s)) ∧ Below w.heap.size w w' := by
  have hb := lenOf_bd s
  unfold wordB
  generalize hL : lenOf s = L at *
  have HL := Lib.hid hL
  clear hL
  by_cases h1 : 1 ≤ L
  · have h1b : decide (1 ≤ L) = true := decide_eq_true h1
    go_enter Try.func18, Try.ntmps18
    go_wp2_with (go_at_call 16; refine (len_calls s _ hs).mono ?_; rintro e w' ⟨rfl, hb1⟩; rw [HL.out]; have HB := Lib.hid hb1; clear hb1)
    go_ret
    exact ⟨by simp [h1], HB.out⟩
  · have h1b : decide (1 ≤ L) = false := decide_eq_false h1
    go_enter Try.func18, Try.ntmps18
    go_wp2_with (go_at_call 16; refine (len_calls s _ hs).mono ?_; rintro e w' ⟨rfl, hb1⟩; rw [HL.out]; have HB := Lib.hid hb1; clear hb1)
    go_ret
    exact ⟨by simp [h1]; omega, HB.out⟩

set_option maxRecDepth 100000 in
set_option maxHeartbeats 1000000 in
theorem asked_calls (s : ByteArray) (w : World) (hs : s.size ≤ 140737488351232) :
    Calls Try.prog 20 #[.string s] w fun e w' => e = .returned (.bool (askedB s)) ∧ Below w.heap.size w w' := by
  have hb := lenOf_bd s
  unfold askedB
  generalize hL : lenOf s = L at *
  have HL := Lib.hid hL
  clear hL
  by_cases h1 : 0 ≤ L
  · have h1b : decide (0 ≤ L) = true := decide_eq_true h1
    go_enter Try.func20, Try.ntmps20
    go_wp2_with (go_at_call 16; refine (len_calls s _ hs).mono ?_; rintro e w' ⟨rfl, hb1⟩; rw [HL.out]; have HB := Lib.hid hb1; clear hb1)
    go_ret
    exact ⟨by simp [h1], HB.out⟩
  · have h1b : decide (0 ≤ L) = false := decide_eq_false h1
    go_enter Try.func20, Try.ntmps20
    go_wp2_with (go_at_call 16; refine (len_calls s _ hs).mono ?_; rintro e w' ⟨rfl, hb1⟩; rw [HL.out]; have HB := Lib.hid hb1; clear hb1)
    go_ret
    exact ⟨by simp [h1]; omega, HB.out⟩

theorem compare_calls (a b : ByteArray) (w : World) :
    Calls Try.prog 11 #[.string a, .string b] w fun e w' => e = .returned (.int .i64 (Lib.compareBytes a.data.toList b.data.toList)) ∧ w = w' := by
  go_enter Try.func11, Try.ntmps11
  go_wp2_with (go_at_call 30; refine (Try.strings_Compare a b _).mono ?_; rintro e w' ⟨rfl, rfl⟩)
  go_ret
  exact ⟨rfl, rfl⟩

set_option maxRecDepth 100000 in
set_option maxHeartbeats 2000000 in
theorem prefix_calls (s : ByteArray) (n : Int) (w : World) (hs : s.size ≤ 140737488351232) (hn0 : -9223372036854775808 ≤ n) (hn1 : n ≤ 9223372036854775807) :
    Calls Try.prog 22 #[.string s, .int .i64 n] w fun e w' => e = .returned (.string (prefixOf s n)) ∧ Below w.heap.size w w' := by
  have hb := lenOf_bd s
  unfold prefixOf
  generalize hL : lenOf s = L at *
  have HL := Lib.hid hL
  clear hL
  by_cases h1 : L < 0
  · have h1b : decide (L < 0) = true := decide_eq_true h1
    rw [if_pos (.inl h1)]
    go_enter Try.func22, Try.ntmps22
    go_wp2_with (go_at_call 16; refine (len_calls s _ hs).mono ?_; rintro e w' ⟨rfl, hb1⟩; rw [HL.out]; have HB := Lib.hid hb1; clear hb1)
    go_ret
    exact ⟨rfl, HB.out⟩
  · have h1b : decide (L < 0) = false := decide_eq_false h1
    by_cases h2 : n < 1
    · have h2b : decide (n < 1) = true := decide_eq_true h2
      rw [if_pos (.inr h2)]
      go_enter Try.func22, Try.ntmps22
      go_wp2_with (go_at_call 16; refine (len_calls s _ hs).mono ?_; rintro e w' ⟨rfl, hb1⟩; rw [HL.out]; have HB := Lib.hid hb1; clear hb1)
      go_ret
      exact ⟨rfl, HB.out⟩
    · have h2b : decide (n < 1) = false := decide_eq_false h2
      rw [if_neg (by omega)]
      go_enter Try.func22, Try.ntmps22
      go_wp2_with (go_at_call 16; refine (len_calls s _ hs).mono ?_; rintro e w' ⟨rfl, hb1⟩; rw [HL.out]; have HB := Lib.hid hb1; clear hb1)
      have hsz := HB.out.size
      have hn : 0 ≤ n := by omega
      obtain ⟨w1, hw1⟩ : ∃ w1, w1 = w' := ⟨_, rfl⟩
      subst hw1
      go_loopw [1] (fun m wr => ∃ (pos b : Nat) (k : Int), wr = w1.iter s pos ∧ m = .int .i64 k ∧ Hid (cutFrom s b pos k = cutFrom s s.size 0 n) ∧ s.size ≤ pos + b ∧ 0 ≤ k ∧ k ≤ n) (fun _ wr => s.size - wr.iterPos w1.heap.size)
      case atStart => exact ⟨0, s.size, n, rfl, rfl, rfl, by omega, by omega, by omega⟩
      case round =>
        obtain ⟨pos, b, k, rfl, rfl, hc, hb, hk0, hk1⟩ := hrel
        by_cases hp : pos < s.size
        · have hwd := Lib.decode_width_pos s pos hp
          have hnx : ∀ ty, (Instr.next (.pointer (some ⟨w1.heap.size, 0, none⟩)) true ty).run Try.prog (w1.iter s pos) = _ := fun ty => run_next_any w1 s pos ty hp
          cases b with
          | zero => omega
          | succ b =>
          by_cases h5 : k = 0
          · have hcc : cutFrom s s.size 0 n = pos := by rw [← hc.out]; unfold cutFrom; rw [if_pos hp, if_pos h5]
            have h5b : (k == 0) = true := by rw [h5]; rfl
            have HC := Lib.hid hcc
            clear hcc h5 hc
            go_wp2
            go_ret
            rw [HC.out]
            exact ⟨rfl, HB.out.trans ((below_iter _ _ _).mono hsz)⟩
          · have hcc : cutFrom s b (pos + (Utf8.decode s pos).2) (k - 1) = cutFrom s s.size 0 n := by
              rw [← hc.out]; conv => rhs; unfold cutFrom
              rw [if_pos hp, if_neg h5]
            have h5b : (k == 0) = false := by rw [beq_eq_false_iff_ne]; omega
            have HC := Lib.hid hcc
            clear hcc hc
            go_wp2
            go_roundw
            case rel => exact ⟨pos + (Utf8.decode s pos).2, b, k - 1, rfl, rfl, HC.out, by omega, by omega, by omega⟩
            case measure => simp; omega
        · have hnx : ∀ ty, (Instr.next (.pointer (some ⟨w1.heap.size, 0, none⟩)) true ty).run Try.prog (w1.iter s pos) = _ := fun ty => run_next_end w1 s pos ty hp
          have hcc : cutFrom s s.size 0 n = s.size := by rw [← hc.out, cutFrom_end s b pos k hp]
          have HC := Lib.hid hcc
          clear hcc hc
          go_wp2
          go_ret
          rw [HC.out]
          exact ⟨by rw [ByteArray.extract_zero_size]; rfl, HB.out.trans ((below_iter _ _ _).mono hsz)⟩
end Go.Proofs.Ythnckedfkmfglaa
