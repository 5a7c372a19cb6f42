/- The walk of text.Runes: it answers the runes of runesOf in a row of its own, or nil and false. -/
import Derived.Test.YthnckedfkmfglaaProg
import Derived.Test.YthnckedfkmfglaaLen
import Derived.Test.YthnckedfkmfglaaWMore
import Derived.Test.YthnckedfkmfglaaWAt
import Derived.WalkKit
import Derived.KernelRfl
import Derived.RowKit3
import Derived.Lib.Hide
import Derived.Lib.OthersKept
import Derived.WalkSmall
namespace Go.Proofs.Ythnckedfkmfglaa
open Go.RowKit Go.Proofs.YthnckedfkmfglaaW.PrintWords Go.Proofs.YthnckedfkmfglaaW.PrintLast
set_option linter.unusedVariables false
set_option linter.unusedSimpArgs false

theorem info21 : (Try.prog.info? 21).map (fun i => (i.zero, i.size, i.bytes)) = some (some (.int .i32 0), 1, 4) := by kernel_rfl

def RunesPost (s : ByteArray) (w : World) (e : Ending) (w' : World) : Prop :=
  Below w.heap.size w w' ∧ match runesOf s with
  | none => e = .returned (.tuple #[.slice none 0 0, .bool false])
  | some l => ∃ v, e = .returned (.tuple #[v, .bool true]) ∧ Kd.R (Kd.int .i32) 21 w' w.heap.size (fun _ => True) v l

set_option maxRecDepth 100000 in
set_option maxHeartbeats 2000000 in
theorem runes_calls (s : ByteArray) (w : World) (hs : s.size ≤ 1048576) :
    Calls Try.prog 13 #[.string s] w (RunesPost s w) := by
  go_enter Try.func13, Try.ntmps13
  go_wp2
  go_loopw [4] (fun v wr => ∃ (pos b : Nat) (l : List Int), wr.heap[w.heap.size]? = some (.stringIter s pos) ∧ Hid (Kd.R (Kd.int .i32) 21 wr (w.heap.size + 1) (fun _ => True) v l) ∧ Hid (runesOf s = (runesFrom s b pos).map (l ++ ·)) ∧ s.size ≤ pos + b ∧ Hid (Below w.heap.size w wr) ∧ l.length ≤ pos ∧ l.length ≤ s.size ∧ w.heap.size + 1 ≤ wr.heap.size) (fun _ wr => s.size - wr.iterPos w.heap.size)
  case atStart =>
    refine ⟨0, s.size, [], World.iter_heap _ _ _, Kd.R_nil _ _ _ _ _, ?_, by omega, below_iter _ _ _, by simp, by simp, by simp [World.iter]⟩
    show runesOf s = _
    unfold runesOf
    cases runesFrom s s.size 0 <;> simp
  case round =>
    obtain ⟨pos, b, l, hit, hR, hc, hb, hB, hl, hl2, hsz⟩ := hrel
    have hipos : wr.iterPos w.heap.size = pos := iterPos_of hit
    have HIP := Lib.hid hipos
    clear hipos
    by_cases hp : pos < s.size
    · have hwd := Lib.decode_width_pos s pos hp
      have hnx : ∀ ty, (Instr.next (.pointer (some ⟨w.heap.size, 0, none⟩)) true ty).run Try.prog wr = _ := fun ty => Lib.run_next_any_at wr w.heap.size s pos ty hit hp
      have hit2 := Lib.hid (Lib.iterAt_heap wr w.heap.size s pos (pos + (Utf8.decode s pos).2) hit)
      have hB2 := Lib.hid (Lib.below_iterAt hB.out (k := w.heap.size) (Nat.le_refl _) s (pos + (Utf8.decode s pos).2))
      have hR2 : Hid (Kd.R (Kd.int .i32) 21 (wr.iterAt w.heap.size s (pos + (Utf8.decode s pos).2)) (w.heap.size + 1) (fun _ => True) u4 l) := Kd.R_mono (Kd.R_step (Kd.R_bound hR.out) (fun k hk hlt => Lib.iterAt_other wr w.heap.size k s _ (by have := hk.2.1; omega))) (fun _ _ => trivial)
      have hsz2 : w.heap.size + 1 ≤ (wr.iterAt w.heap.size s (pos + (Utf8.decode s pos).2)).heap.size := by rw [Lib.iterAt_size]; exact hsz
      generalize hW : wr.iterAt w.heap.size s (pos + (Utf8.decode s pos).2) = W at *
      have HW := Lib.hid hW
      clear hW hit hB hR hsz
      cases b with
      | zero => omega
      | succ b =>
      by_cases h5 : (Utf8.decode s pos).1 = 65533
      · have hcc : runesOf s = none := by rw [hc.out]; unfold runesFrom; rw [if_pos hp, if_pos h5]; rfl
        have h5b : (((Utf8.decode s pos).1 : Int) == 65533) = true := by rw [h5]; rfl
        have HC := Lib.hid hcc
        clear hcc h5 hc
        go_wp2
        go_ret2
        unfold RunesPost
        rw [HC.out]
        exact ⟨hB2.out, rfl⟩
      · have hcc : runesOf s = (runesFrom s b (pos + (Utf8.decode s pos).2)).map ((l ++ [((Utf8.decode s pos).1 : Int)]) ++ ·) := by
          rw [hc.out]; conv => lhs; unfold runesFrom
          rw [if_pos hp, if_neg h5]
          cases runesFrom s b (pos + (Utf8.decode s pos).2) <;> simp
        have h5b : (((Utf8.decode s pos).1 : Int) == 65533) = false := by rw [beq_eq_false_iff_ne]; omega
        have HC := Lib.hid hcc
        clear hcc h5 hc
        generalize ((Utf8.decode s pos).1 : Int) = c at *
        go_wp2_with (at_builtin; refine Kd.R_append (Kd.int .i32) (w0 := W) (w.heap.size + 1) rfl (.tmp 14) (.tmp 16) 25 21 (.int .i32 0) 4 rfl Try.underlying25 info21 rfl (by decide) (by omega) u4 l c [.int .i32 c] (fun _ => True) (fun _ => False) rfl rfl ?aP (fun _ hk => hk.elim) ?aF ?aO ?aB ?aS ?aL ?_; (case aP => exact rfl); (case aF => exact fun _ _ => trivial); (case aO => exact hR2.out); (case aB => exact Below.refl _ _); (case aS => exact hsz2); (case aL => omega); intro v1 w1 ho hb1 hg hat; have HO := Lib.hid ho; have HB1 := Lib.hid hb1; clear ho hb1 hg hat)
        have hit3 : w1.heap[w.heap.size]? = some (.stringIter s (pos + (Utf8.decode s pos).2)) := (HB1.out.block _ (by omega)).trans hit2.out
        have hip3 : w1.iterPos w.heap.size = pos + (Utf8.decode s pos).2 := iterPos_of hit3
        have hsz3 := HB1.out.size
        go_roundw
        case rel => exact ⟨pos + (Utf8.decode s pos).2, b, l ++ [c], hit3, HO.out, HC.out, by omega, hB2.out.trans (HB1.out.mono (by omega)), by simp; omega, by simp; omega, by omega⟩
        case measure => rw [hip3, HIP.out]; omega
    · have hnx : ∀ ty, (Instr.next (.pointer (some ⟨w.heap.size, 0, none⟩)) true ty).run Try.prog wr = _ := fun ty => Lib.run_next_end_at wr w.heap.size s pos ty hit hp
      have hcc : runesOf s = some l := by rw [hc.out, runesFrom_end s b pos hp]; simp
      have HC := Lib.hid hcc
      clear hcc hc
      go_wp2
      go_ret2
      unfold RunesPost
      rw [HC.out]
      exact ⟨hB.out, _, rfl, Kd.R_lower hR.out (by omega)⟩
end Go.Proofs.Ythnckedfkmfglaa
