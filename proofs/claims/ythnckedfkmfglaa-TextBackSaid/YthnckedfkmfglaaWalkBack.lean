/- The walk of the law TextBack: it returns true. -/
import Derived.Test.YthnckedfkmfglaaText
import Derived.Test.YthnckedfkmfglaaLow
namespace Go.Proofs.Ythnckedfkmfglaa
open Go.RowKit Go.Proofs.YthnckedfkmfglaaW.PrintWords Go.Proofs.YthnckedfkmfglaaW.PrintLast Go.Proofs.YthnckedfkmfglaaW.PrintMore
attribute [local go_sem] max2_int min2_int max_two min_two
set_option linter.unusedVariables false
set_option linter.unusedSimpArgs false

theorem runes_some {s : ByteArray} {x : List Int} (h : runesOf s = some x) (hs : s.size ≤ 1048576) (w : World) : Calls Try.prog 13 #[.string s] w fun e w' =>
    ∃ A c, e = .returned (.tuple #[.slice A x.length c, .bool true]) ∧ Hid (Below w.heap.size w w') ∧ Hid (Kd.C (Kd.int .i32) w' A x.length x) ∧ x.length ≤ c := by
  refine (runes_calls s w hs).mono ?_
  rintro e w' ⟨hb, h1⟩
  rw [h] at h1
  obtain ⟨v, rfl, hR⟩ := h1
  obtain ⟨A, c, rfl, hc, hC⟩ := Kd.R_reads hR
  exact ⟨A, c, rfl, hb, hC, hc⟩
theorem runes_none {s : ByteArray} (h : runesOf s = none) (hs : s.size ≤ 1048576) (w : World) : Calls Try.prog 13 #[.string s] w fun e w' =>
    e = .returned (.tuple #[.slice none 0 0, .bool false]) ∧ Hid (Below w.heap.size w w') := by
  refine (runes_calls s w hs).mono ?_
  rintro e w' ⟨hb, h1⟩
  rw [h] at h1
  exact ⟨h1, hb⟩

theorem extract_pre (s : ByteArray) (k : Nat) : s.extract 0 (s.extract 0 k).size = s.extract 0 k := by
  apply ba_ext
  rw [ByteArray.data_extract, Array.toList_extract, ByteArray.data_extract, Array.toList_extract, ByteArray.size_extract]
  simp only [List.extract_eq_take_drop, List.drop_zero, Nat.sub_zero]
  have e : s.data.toList.length = s.size := by rw [Array.length_toList]; rfl
  by_cases h : k ≤ s.size
  · rw [Nat.min_eq_left h]
  · rw [Nat.min_eq_right (by omega), List.take_of_length_le (by omega), List.take_of_length_le (by omega)]

theorem prefix_in (s : ByteArray) (n : Int) : (prefixOf s n).size ≤ s.size ∧ s.extract 0 (prefixOf s n).size = prefixOf s n := by
  unfold prefixOf
  by_cases h : lenOf s < 0 ∨ n < 1
  · rw [if_pos h]
    refine ⟨Nat.zero_le _, ?_⟩
    apply ba_ext
    rw [ByteArray.data_extract, Array.toList_extract]
    rfl
  · rw [if_neg h]
    exact ⟨by rw [ByteArray.size_extract]; omega, extract_pre s _⟩

theorem good_all {s : ByteArray} {x : List Int} (h : runesOf s = some x) : x.all goodB = true := by
  rw [List.all_eq_true]
  intro r hr
  exact (goodB_iff r).2 (((runesOf_iff s x).1 h).2 r hr)
theorem bytes_back {s : ByteArray} {x : List Int} (h : runesOf s = some x) : runesBytes x = s := by
  apply ba_ext
  rw [runesBytes_enc, ((runesOf_iff s x).1 h).1]

theorem text_back {s : ByteArray} {x : List Int} (h : runesOf s = some x) (A : Option Addr) (c : Nat) (w : World) (hC : Kd.C (Kd.int .i32) w A x.length x) (hc : x.length ≤ c) (hl : x.length ≤ 1048576) :
    Calls Try.prog 27 #[.slice A x.length c] w fun e w' => w = w' ∧ e = .returned (.tuple #[.string s, .bool true]) := by
  refine (text_calls A c x w hC hc (by omega)).mono ?_
  rintro e w' ⟨hw, he⟩
  rw [good_all h, if_pos rfl, bytes_back h] at he
  exact ⟨hw, he⟩

theorem len_prefix {s : ByteArray} {x : List Int} (h : runesOf s = some x) (m : Int) (h0 : 0 ≤ m) : lenOf (prefixOf s m) = min m x.length := by
  by_cases h1 : 1 ≤ m
  · obtain ⟨k, rfl⟩ : ∃ k : Nat, m = k := ⟨m.toNat, by omega⟩
    have := runesOf_prefix s x h k (by omega)
    unfold lenOf
    rw [this]
    simp only [List.length_take]
    omega
  · obtain rfl : m = 0 := by omega
    have e : prefixOf s 0 = ⟨#[]⟩ := by unfold prefixOf; rw [if_pos (.inr (by omega))]
    have e2 : lenOf ⟨#[]⟩ = 0 := by decide +kernel
    rw [e, e2]
    omega

set_option maxRecDepth 100000 in
set_option maxHeartbeats 4000000 in
theorem back_walk (s : ByteArray) (n : Int) (hs : s.size ≤ 140737488351232) (hn : (Lit.int .i64 n).wf = true) (w : World) :
    Calls Try.prog 9 #[.string s, .int .i64 n] w fun e w' => e = .returned (.bool true) ∧ Below w.heap.size w w' := by
  obtain ⟨n0, n1⟩ : -9223372036854775808 ≤ n ∧ n ≤ 9223372036854775807 := by simpa [Lit.wf, IntKind.min, IntKind.max, IntKind.signed, IntKind.bits] using hn
  clear hn
  by_cases c1 : (300 : Int) < s.size
  · have c1b : decide ((300 : Int) < s.size) = true := decide_eq_true c1
    go_enter Try.func9, Try.ntmps9
    go_wp2_with (go_at_call 10; refine (awake_calls _).mono ?_; rintro e w' ⟨rfl, hb1⟩; have HB := Lib.hid hb1; clear hb1)
    go_ret
    exact ⟨rfl, HB.out⟩
  · have c1b : decide ((300 : Int) < s.size) = false := decide_eq_false c1
    have hs2 : s.size ≤ 1048576 := by omega
    cases hr : runesOf s with
    | none =>
      have HR := Lib.hid hr
      have CL : Hid (∀ W, Calls Try.prog 16 #[.string s] W fun e w' => e = .returned (.int .i64 (-1)) ∧ Below W.heap.size W w') := fun W => (by unfold lenOf; rw [hr] : lenOf s = -1) ▸ len_calls s W hs
      have CW : Hid (∀ W, Calls Try.prog 18 #[.string s] W fun e w' => e = .returned (.bool false) ∧ Below W.heap.size W w') := fun W => (by unfold wordB lenOf; rw [hr]; rfl : wordB s = false) ▸ word_calls s W hs
      have CP : Hid (∀ W, Calls Try.prog 22 #[.string s, .int .i64 n] W fun e w' => e = .returned (.string ⟨#[]⟩) ∧ Below W.heap.size W w') := fun W => (by unfold prefixOf lenOf; rw [hr]; rfl : prefixOf s n = ⟨#[]⟩) ▸ prefix_calls s n W hs n0 n1
      clear hr
      go_enter Try.func9, Try.ntmps9
      go_wp2_with fail
      refine (runes_none HR.out hs2 _).mono ?_
      rintro e w1 ⟨rfl, HB1⟩
      have hs1 := HB1.out.size
      go_wp2_with fail
      refine (CL.out _).mono ?_
      rintro e w2 ⟨rfl, hb2⟩
      have HB2 := Lib.hid hb2
      have hs2' := hb2.size
      clear hb2
      go_wp2_with fail
      refine (CW.out _).mono ?_
      rintro e w3 ⟨rfl, hb3⟩
      have HB3 := Lib.hid hb3
      have hs3 := hb3.size
      clear hb3
      go_wp2_with fail
      refine (CP.out _).mono ?_
      rintro e w4 ⟨rfl, hb4⟩
      have HB4 := Lib.hid hb4
      have hs4 := hb4.size
      clear hb4
      go_wp2_with fail
      refine (awake_calls _).mono ?_
      rintro e w5 ⟨rfl, hb5⟩
      have HB5 := Lib.hid hb5
      clear hb5
      go_wp2_with fail
      go_ret
      refine ⟨rfl, ?_⟩
      have z2 := HB1.out.trans (HB2.out.mono hs1)
      have z3 := z2.trans (HB3.out.mono (by omega))
      have z4 := z3.trans (HB4.out.mono (by omega))
      exact z4.trans (HB5.out.mono (by omega))
    | some x =>
      have hxl : x.length ≤ 1048576 := Nat.le_trans (runesFrom_len s _ _ _ hr).1 hs2
      have HR := Lib.hid hr
      obtain ⟨m, hm, hm0, hm1⟩ := low_some n 20 (by omega) (by omega)
      have HM := Lib.hid hm
      have hp := len_prefix hr m hm0
      have hp2 := prefix_in s m
      have hlx : lenOf s = x.length := by unfold lenOf; rw [hr]
      have CL : Hid (∀ W, Calls Try.prog 16 #[.string s] W fun e w' => e = .returned (.int .i64 (x.length : Int)) ∧ Below W.heap.size W w') := fun W => hlx ▸ len_calls s W hs
      have CP : Hid (∀ W, Calls Try.prog 22 #[.string s, .int .i64 m] W fun e w' => e = .returned (.string (prefixOf s m)) ∧ Below W.heap.size W w') := fun W => prefix_calls s m W hs (by omega) (by omega)
      generalize prefixOf s m = P at *
      have CLP : Hid (∀ W, Calls Try.prog 16 #[.string P] W fun e w' => e = .returned (.int .i64 (min m (x.length : Int))) ∧ Below W.heap.size W w') := fun W => hp ▸ len_calls P W (by omega)
      have hps := hp2.1
      have HP := Lib.hid hp2.2
      clear hr hm hp hp2 hlx
      go_enter Try.func9, Try.ntmps9
      go_wp2_with fail
      refine (runes_some HR.out hs2 _).mono ?_
      rintro e w1 ⟨A, c, rfl, HB1, HC, hc⟩
      have hs1 := HB1.out.size
      go_wp2_with fail
      refine (text_back HR.out A c _ HC.out hc hxl).mono ?_
      rintro e w' ⟨rfl, rfl⟩
      go_wp2_with fail
      refine (PTextSpoilt.inkhornlaw0_Low.calls _ _ _ _ HM.out).mono ?_
      rintro e w' ⟨rfl, ⟨k1, rfl⟩⟩
      go_wp2_with fail
      refine (CP.out _).mono ?_
      rintro e w2 ⟨rfl, hb2⟩
      have HB2 := Lib.hid hb2
      have hs2' := hb2.size
      clear hb2
      go_wp2_with fail
      refine (CL.out _).mono ?_
      rintro e w3 ⟨rfl, hb3⟩
      have HB3 := Lib.hid hb3
      have hs3 := hb3.size
      clear hb3
      go_wp2_with fail
      refine (CLP.out _).mono ?_
      rintro e w4 ⟨rfl, hb4⟩
      have HB4 := Lib.hid hb4
      have hs4 := hb4.size
      clear hb4
      have hpo := HP.out
      go_wp2_with fail
      all_goals
        refine (awake_calls _).mono ?_
        rintro e w5 ⟨rfl, hb5⟩
        have HB5 := Lib.hid hb5
        clear hb5
        go_wp2_with fail
        go_ret
        refine ⟨rfl, ?_⟩
        have z2 := (pw_below_drewN HB1.out k1).trans (HB2.out.mono (by simp; omega))
        have z3 := z2.trans (HB3.out.mono (by simp at hs2'; omega))
        have z4 := z3.trans (HB4.out.mono (by simp at hs2'; omega))
        exact z4.trans (HB5.out.mono (by simp at hs2'; omega))
end Go.Proofs.Ythnckedfkmfglaa
