/- The walk of awake of chapter 1's statements: it answers true. -/
import Derived.Test.YthnckedfkmfglaaProg
import Derived.Test.YthnckedfkmfglaaRunes
import Derived.Test.YthnckedfkmfglaaMore
import Derived.Test.YthnckedfkmfglaaPTextComparesx1
import Derived.WalkKit
import Derived.KernelRfl
import Derived.RowKit3
import Derived.Lib.Hide
namespace Go.Proofs.Ythnckedfkmfglaa
open Go.RowKit Go.Proofs.YthnckedfkmfglaaW.PrintWords Go.Proofs.YthnckedfkmfglaaW.PrintLast
set_option linter.unusedVariables false
set_option linter.unusedSimpArgs false

theorem lit_C (w : World) (xs : List Int) (hm : xs.length ≤ 9223372036854775807) (h0 : 0 < xs.length) :
    (Kd.int .i32).C (w.alloc (.cells (encs (Value.int .i32) xs).toArray 21)) (some ⟨w.heap.size, 0, none⟩) xs.length xs := by
  have h := own_lit_of (enc := Value.int .i32) w 0 21 xs (Nat.zero_le _) hm
  have hR : (Kd.int .i32).R 21 (w.alloc (.cells (encs (Value.int .i32) xs).toArray 21)) 0 (fun _ => True) (.slice (some ⟨w.heap.size, 0, none⟩) xs.length xs.length) xs := Kd.R_of_own h (fun _ _ => trivial)
  exact (Kd.R_reads' hR).2.2

theorem runes_aw : runesOf ⟨#[97, 195, 169]⟩ = some [97, 233] := by decide +kernel
theorem len_aw : lenOf ⟨#[255]⟩ = -1 := by decide +kernel
theorem prefix_aw : prefixOf ⟨#[104, 195, 169, 106]⟩ 2 = ⟨#[104, 195, 169]⟩ := by decide +kernel
theorem compare_aw : Lib.compareBytes [122] [195, 169] = -1 := by decide +kernel
theorem word_aw : wordB ⟨#[97]⟩ = true := by decide +kernel
theorem same_aw : PTextCompares.inkhornlaw0_SameRunes.f 3 [97, 233] [97, 233] = some true := by decide +kernel

theorem runes_aw_calls (w : World) : Calls Try.prog 13 #[.string ⟨#[97, 195, 169]⟩] w fun e w' =>
    ∃ A c, e = .returned (.tuple #[.slice A 2 c, .bool true]) ∧ 2 ≤ c ∧ Kd.C (Kd.int .i32) w' A 2 [97, 233] ∧ Below w.heap.size w w' := by
  refine (runes_calls _ w (by decide)).mono ?_
  rintro e w' ⟨hb, h⟩
  rw [runes_aw] at h
  obtain ⟨v, rfl, hR⟩ := h
  obtain ⟨A, c, rfl, hc, hC⟩ := Kd.R_reads hR
  exact ⟨A, c, rfl, hc, hC, hb⟩
theorem len_aw_calls (w : World) : Calls Try.prog 16 #[.string ⟨#[255]⟩] w fun e w' => e = .returned (.int .i64 (-1)) ∧ Below w.heap.size w w' :=
  len_aw ▸ len_calls ⟨#[255]⟩ w (by decide)
theorem prefix_aw_calls (w : World) : Calls Try.prog 22 #[.string ⟨#[104, 195, 169, 106]⟩, .int .i64 2] w fun e w' => e = .returned (.string ⟨#[104, 195, 169]⟩) ∧ Below w.heap.size w w' :=
  prefix_aw ▸ prefix_calls ⟨#[104, 195, 169, 106]⟩ 2 w (by decide) (by decide) (by decide)
theorem compare_aw_calls (w : World) : Calls Try.prog 11 #[.string ⟨#[122]⟩, .string ⟨#[195, 169]⟩] w fun e w' => e = .returned (.int .i64 (-1)) ∧ w = w' :=
  compare_aw ▸ compare_calls ⟨#[122]⟩ ⟨#[195, 169]⟩ w
theorem word_aw_calls (w : World) : Calls Try.prog 18 #[.string ⟨#[97]⟩] w fun e w' => e = .returned (.bool true) ∧ Below w.heap.size w w' :=
  word_aw ▸ word_calls ⟨#[97]⟩ w (by decide)

set_option maxRecDepth 100000 in
set_option maxHeartbeats 2000000 in
theorem awake_calls (w : World) : Calls Try.prog 10 #[] w fun e w' => e = .returned (.bool true) ∧ Below w.heap.size w w' := by
  go_enter Try.func10, Try.ntmps10
  go_wp2_with fail
  refine (runes_aw_calls _).mono ?_
  rintro e w1 ⟨A, c, rfl, hc, hC, hb1⟩
  have HC1 := Lib.hid hC
  have HB1 := Lib.hid hb1
  have hcb : 2 ≤ c := hc
  have hs1 := hb1.size
  clear hC hb1 hc
  go_wp2_with fail
  refine (PTextCompares.inkhornlaw0_SameRunes.calls 3 A c [97, 233] (some ⟨w1.heap.size, 0, none⟩) 2 [97, 233] true _ (Kd.C_alloc HC1.out _) hcb (lit_C w1 [97, 233] (by decide) (by decide)) (by decide) same_aw).mono ?_
  rintro e w2 ⟨rfl, ⟨nd, rfl⟩⟩
  go_wp2_with fail
  refine (len_aw_calls _).mono ?_
  rintro e w3 ⟨rfl, hb3⟩
  have HB3 := Lib.hid hb3
  clear hb3
  go_wp2_with fail
  refine (prefix_aw_calls _).mono ?_
  rintro e w4 ⟨rfl, hb4⟩
  have HB4 := Lib.hid hb4
  clear hb4
  go_wp2_with fail
  refine (compare_aw_calls _).mono ?_
  rintro e w5 ⟨rfl, rfl⟩
  go_wp2_with fail
  refine (word_aw_calls _).mono ?_
  rintro e w6 ⟨rfl, hb6⟩
  have HB6 := Lib.hid hb6
  clear hb6
  go_wp2_with fail
  go_ret
  refine ⟨rfl, ?_⟩
  have h3 := HB3.out
  have h4 := HB4.out
  have h6 := HB6.out
  have h1 := HB1.out
  have e3 := h3.size
  have e4 := h4.size
  have hw : Below w.heap.size w ((w1.alloc (.cells #[.int .i32 97, .int .i32 233] 21)).drewN nd) := pw_below_drewN (h1.alloc hs1 _) _
  exact ((hw.trans (h3.mono (by simp at e3 ⊢; omega))).trans (h4.mono (by simp at e3 e4 ⊢; omega))).trans (h6.mono (by simp at e3 e4 ⊢; omega))
end Go.Proofs.Ythnckedfkmfglaa
