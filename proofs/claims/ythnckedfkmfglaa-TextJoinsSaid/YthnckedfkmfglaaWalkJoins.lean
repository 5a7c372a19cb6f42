/- The walk of the law TextJoins: it returns true. -/
import Derived.Test.YthnckedfkmfglaaAwake
import Derived.Test.YthnckedfkmfglaaLaw
namespace Go.Proofs.Ythnckedfkmfglaa
open Go.RowKit Go.Proofs.YthnckedfkmfglaaW.PrintWords Go.Proofs.YthnckedfkmfglaaW.PrintLast
set_option linter.unusedVariables false
set_option linter.unusedSimpArgs false

theorem runes_of_len {s : ByteArray} (h2 : ¬ lenOf s < 0) : ∃ rs, runesOf s = some rs ∧ lenOf s = rs.length := by
  unfold lenOf at h2 ⊢
  cases hr : runesOf s with
  | none => rw [hr] at h2; simp at h2
  | some rs => exact ⟨rs, rfl, rfl⟩

theorem len_of {s : ByteArray} {rs : List Int} (h : runesOf s = some rs) : lenOf s = rs.length := by unfold lenOf; rw [h]

theorem prefix_join (a b : ByteArray) (x y : List Int) (ha : runesOf a = some x) (hb : runesOf b = some y) : prefixOf (a ++ b) (x.length : Int) = a := by
  cases x with
  | nil =>
    have e := ((runesOf_iff a []).1 ha).1
    unfold prefixOf
    rw [if_pos (.inr (by simp))]
    exact ba_ext (by rw [e]; rfl)
  | cons r x =>
    have h := prefixOf_enc (a ++ b) ((r :: x) ++ y) (runesOf_append a b _ y ha hb) (r :: x).length (by simp)
    apply ba_ext
    rw [h, ((runesOf_iff a (r :: x)).1 ha).1, List.take_left]

theorem prefix_whole (s : ByteArray) (rs : List Int) (h : runesOf s = some rs) (n : Nat) (hn : rs.length < n) : prefixOf s (n : Int) = s := by
  have h2 := prefixOf_enc s rs h n (by omega)
  apply ba_ext
  rw [h2, List.take_of_length_le (by omega), ((runesOf_iff s rs).1 h).1]

set_option maxRecDepth 100000 in
set_option maxHeartbeats 4000000 in
theorem joins_walk (a b : ByteArray) (ha : a.size ≤ 140737488351232) (hb : b.size ≤ 140737488351232) (w : World) :
    Calls Try.prog 7 #[.string a, .string b] w fun e w' => e = .returned (.bool true) ∧ Below w.heap.size w w' := by
  by_cases c1 : (100 : Int) < a.size
  · have c1b : decide ((100 : Int) < a.size) = true := decide_eq_true c1
    go_enter Try.func7, Try.ntmps7
    go_wp2_with (go_at_call 10; refine (awake_calls _).mono ?_; rintro e w' ⟨rfl, hb1⟩; have HB := Lib.hid hb1; clear hb1)
    go_ret
    exact ⟨rfl, HB.out⟩
  · have c1b : decide ((100 : Int) < a.size) = false := decide_eq_false c1
    by_cases c2 : (100 : Int) < b.size
    · have c2b : decide ((100 : Int) < b.size) = true := decide_eq_true c2
      go_enter Try.func7, Try.ntmps7
      go_wp2_with (go_at_call 10; refine (awake_calls _).mono ?_; rintro e w' ⟨rfl, hb1⟩; have HB := Lib.hid hb1; clear hb1)
      go_ret
      exact ⟨rfl, HB.out⟩
    · have c2b : decide ((100 : Int) < b.size) = false := decide_eq_false c2
      have LA := Lib.hid (fun W => len_calls a W ha)
      have LB := Lib.hid (fun W => len_calls b W hb)
      by_cases c3 : lenOf a < 0
      · generalize lenOf a = N at *
        have c3b : decide (N < 0) = true := decide_eq_true c3
        go_enter Try.func7, Try.ntmps7
        go_wp2_with fail
        refine (LA.out _).mono ?_
        rintro e w1 ⟨rfl, hb1⟩
        have HB1 := Lib.hid hb1
        have hs1 := hb1.size
        clear hb1
        go_wp2_with (go_at_call 10; refine (awake_calls _).mono ?_; rintro e w' ⟨rfl, hb1⟩; have HB := Lib.hid hb1; clear hb1)
        go_ret
        exact ⟨rfl, HB1.out.trans (HB.out.mono hs1)⟩
      · by_cases c4 : lenOf b < 0
        · generalize lenOf a = N at *
          generalize lenOf b = M at *
          have c3b : decide (N < 0) = false := decide_eq_false c3
          have c4b : decide (M < 0) = true := decide_eq_true c4
          go_enter Try.func7, Try.ntmps7
          go_wp2_with fail
          refine (LA.out _).mono ?_
          rintro e w1 ⟨rfl, hb1⟩
          have HB1 := Lib.hid hb1
          have hs1 := hb1.size
          clear hb1
          go_wp2_with fail
          refine (LB.out _).mono ?_
          rintro e w2 ⟨rfl, hb2⟩
          have HB2 := Lib.hid hb2
          have hs2 := hb2.size
          clear hb2
          go_wp2_with (go_at_call 10; refine (awake_calls _).mono ?_; rintro e w' ⟨rfl, hb1⟩; have HB := Lib.hid hb1; clear hb1)
          go_ret
          exact ⟨rfl, (HB1.out.trans (HB2.out.mono hs1)).trans (HB.out.mono (by omega))⟩
        · obtain ⟨x, hx, ex⟩ := runes_of_len c3
          obtain ⟨y, hy, ey⟩ := runes_of_len c4
          have hxy := runesOf_append a b x y hx hy
          have hab : (a ++ b).size ≤ 140737488351232 := by rw [ByteArray.size_append]; omega
          have lxy : lenOf (a ++ b) = lenOf a + lenOf b := by rw [len_of hxy, ex, ey]; simp
          have p1 := prefix_join a b x y hx hy
          have p2 := prefix_whole (a ++ b) (x ++ y) hxy (x.length + y.length + 1) (by simp)
          rw [← ex] at p1
          rw [show ((x.length + y.length + 1 : Nat) : Int) = lenOf a + lenOf b + 1 from by rw [ex, ey]; rfl] at p2
          have bdx := lenOf_bd a
          have bdy := lenOf_bd b
          have WAB : wordB (a ++ b) = (decide (1 ≤ lenOf a + lenOf b) && decide (lenOf a + lenOf b ≤ 12)) := by unfold wordB; rw [lxy]
          have AAB : askedB (a ++ b) = decide (lenOf a + lenOf b ≤ 16) := by
            unfold askedB; rw [lxy, decide_eq_true (by omega : 0 ≤ lenOf a + lenOf b), Bool.true_and]
          have CL : Hid (∀ W, Calls Try.prog 16 #[.string (a ++ b)] W fun e w' => e = .returned (.int .i64 (lenOf a + lenOf b)) ∧ Below W.heap.size W w') := fun W => lxy ▸ len_calls (a ++ b) W hab
          have CP1 : Hid (∀ W, Calls Try.prog 22 #[.string (a ++ b), .int .i64 (lenOf a)] W fun e w' => e = .returned (.string a) ∧ Below W.heap.size W w') := fun W => by
            have := prefix_calls (a ++ b) (lenOf a) W hab (by omega) (by omega)
            rw [p1] at this
            exact this
          have CP2 : Hid (∀ W, Calls Try.prog 22 #[.string (a ++ b), .int .i64 (lenOf a + lenOf b + 1)] W fun e w' => e = .returned (.string (a ++ b)) ∧ Below W.heap.size W w') := fun W => by
            have := prefix_calls (a ++ b) (lenOf a + lenOf b + 1) W hab (by omega) (by omega)
            rw [p2] at this
            exact this
          have CW : Hid (∀ W, Calls Try.prog 18 #[.string (a ++ b)] W fun e w' => e = .returned (.bool (decide (1 ≤ lenOf a + lenOf b) && decide (lenOf a + lenOf b ≤ 12))) ∧ Below W.heap.size W w') := fun W => WAB ▸ word_calls (a ++ b) W hab
          have CA : Hid (∀ W, Calls Try.prog 20 #[.string (a ++ b)] W fun e w' => e = .returned (.bool (decide (lenOf a + lenOf b ≤ 16))) ∧ Below W.heap.size W w') := fun W => AAB ▸ asked_calls (a ++ b) W hab
          have n0 : 0 ≤ lenOf a := by omega
          have m0 : 0 ≤ lenOf b := by omega
          have n1 : lenOf a ≤ 100 := by omega
          have m1 : lenOf b ≤ 100 := by omega
          clear WAB AAB p1 p2 lxy hxy bdx bdy ex ey hx hy
          generalize lenOf a = N at *
          generalize lenOf b = M at *
          have c3b : decide (N < 0) = false := decide_eq_false c3
          have c4b : decide (M < 0) = false := decide_eq_false c4
          have hsz : a.size + b.size ≤ 9223372036854775807 := by omega
          cases d1 : decide (1 ≤ N + M) <;> cases d2 : decide (N + M ≤ 12) <;> cases d3 : decide (N + M ≤ 16)
          all_goals
            go_enter Try.func7, Try.ntmps7
            go_wp2_with fail
            refine (LA.out _).mono ?_
            rintro e w1 ⟨rfl, hb1⟩
            have HB1 := Lib.hid hb1
            have hs1 := hb1.size
            clear hb1
            go_wp2_with fail
            refine (LB.out _).mono ?_
            rintro e w2 ⟨rfl, hb2⟩
            have HB2 := Lib.hid hb2
            have hs2 := hb2.size
            clear hb2
            go_wp2_with fail
            refine (LA.out _).mono ?_
            rintro e w3 ⟨rfl, hb3⟩
            have HB3 := Lib.hid hb3
            have hs3 := hb3.size
            clear hb3
            go_wp2_with fail
            refine (LB.out _).mono ?_
            rintro e w4 ⟨rfl, hb4⟩
            have HB4 := Lib.hid hb4
            have hs4 := hb4.size
            clear hb4
            go_wp2_with fail
            refine (CL.out _).mono ?_
            rintro e w5 ⟨rfl, hb5⟩
            have HB5 := Lib.hid hb5
            have hs5 := hb5.size
            clear hb5
            go_wp2_with fail
            refine (CP1.out _).mono ?_
            rintro e w6 ⟨rfl, hb6⟩
            have HB6 := Lib.hid hb6
            have hs6 := hb6.size
            clear hb6
            go_wp2_with fail
            refine (CP2.out _).mono ?_
            rintro e w7 ⟨rfl, hb7⟩
            have HB7 := Lib.hid hb7
            have hs7 := hb7.size
            clear hb7
            go_wp2_with fail
            refine (CW.out _).mono ?_
            rintro e w8 ⟨rfl, hb8⟩
            have HB8 := Lib.hid hb8
            have hs8 := hb8.size
            clear hb8
            go_wp2_with fail
            refine (CA.out _).mono ?_
            rintro e w9 ⟨rfl, hb9⟩
            have HB9 := Lib.hid hb9
            have hs9 := hb9.size
            clear hb9
            go_wp2_with fail
            refine (awake_calls _).mono ?_
            rintro e w10 ⟨rfl, hb10⟩
            have HB10 := Lib.hid hb10
            clear hb10
            go_wp2_with fail
            go_ret
            refine ⟨rfl, ?_⟩
            have z2 := HB1.out.trans (HB2.out.mono hs1)
            have z3 := z2.trans (HB3.out.mono (by omega))
            have z4 := z3.trans (HB4.out.mono (by omega))
            have z5 := z4.trans (HB5.out.mono (by omega))
            have z6 := z5.trans (HB6.out.mono (by omega))
            have z7 := z6.trans (HB7.out.mono (by omega))
            have z8 := z7.trans (HB8.out.mono (by omega))
            have z9 := z8.trans (HB9.out.mono (by omega))
            exact z9.trans (HB10.out.mono (by omega))
end Go.Proofs.Ythnckedfkmfglaa
