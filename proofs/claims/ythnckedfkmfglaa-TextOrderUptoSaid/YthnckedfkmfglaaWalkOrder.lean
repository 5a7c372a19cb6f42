/- The walk of the law TextOrder, where the texts are no longer than 1048576 bytes: it returns true. -/
import Derived.Test.YthnckedfkmfglaaAwake
import Derived.Test.YthnckedfkmfglaaLaw
namespace Go.Proofs.Ythnckedfkmfglaa
open Go.RowKit Go.Proofs.YthnckedfkmfglaaW.PrintWords Go.Proofs.YthnckedfkmfglaaW.PrintLast
set_option linter.unusedVariables false
set_option linter.unusedSimpArgs false

/-- What Runes answers, whatever the text: a slice and whether it is well made. -/
theorem runes_any (s : ByteArray) (w : World) (hs : s.size ≤ 1048576) : Calls Try.prog 13 #[.string s] w fun e w' =>
    ∃ A c, ∃ l : List Int, ∃ b : Bool, e = .returned (.tuple #[.slice A l.length c, .bool b]) ∧ Hid (Below w.heap.size w w') ∧ Hid (Kd.C (Kd.int .i32) w' A l.length l) ∧ Hid (l.length ≤ c) ∧ Hid (runesOf s = if b then some l else none) ∧ Hid (l.length ≤ 1048576) := by
  refine (runes_calls s w hs).mono ?_
  rintro e w' ⟨hb, h⟩
  cases hr : runesOf s with
  | none =>
    rw [hr] at h
    exact ⟨none, 0, [], false, h, hb, Kd.C_nil _ _, Nat.zero_le _, by show _ = _; simp [hr], Nat.zero_le _⟩
  | some l =>
    rw [hr] at h
    obtain ⟨v, rfl, hR⟩ := h
    obtain ⟨A, c, rfl, hc, hC⟩ := Kd.R_reads hR
    exact ⟨A, c, l, true, rfl, hb, hC, hc, by show _ = _; simp [hr], Nat.le_trans (runesFrom_len s _ _ _ hr).1 hs⟩

theorem cmpI_step (x y : List Int) (k : Nat) (hx : k < x.length) (hy : k < y.length) :
    cmpI (x.drop k) (y.drop k) = if rd x (k : Int) < rd y (k : Int) then -1 else if rd y (k : Int) < rd x (k : Int) then 1 else cmpI (x.drop (k + 1)) (y.drop (k + 1)) := by
  rw [List.drop_eq_getElem_cons hx, List.drop_eq_getElem_cons hy]
  have e1 : rd x (k : Int) = x[k] := by simp [rd, hx]
  have e2 : rd y (k : Int) = y[k] := by simp [rd, hy]
  rw [e1, e2]
  rfl
theorem cmpI_ends (x y : List Int) (k : Nat) (h : ¬ (k < x.length ∧ k < y.length)) (hx : k ≤ x.length) (hy : k ≤ y.length) :
    cmpI (x.drop k) (y.drop k) = if x.length = y.length then 0 else if x.length < y.length then -1 else 1 := by
  by_cases h1 : k < x.length
  · have e : y.drop k = [] := List.drop_eq_nil_of_le (by omega)
    rw [e, List.drop_eq_getElem_cons h1, if_neg (by omega), if_neg (by omega)]
    rfl
  · have e : x.drop k = [] := List.drop_eq_nil_of_le (by omega)
    by_cases h2 : k < y.length
    · rw [e, List.drop_eq_getElem_cons h2, if_neg (by omega), if_pos (by omega)]
      rfl
    · have e2 : y.drop k = [] := List.drop_eq_nil_of_le (by omega)
      rw [e, e2, if_pos (by omega)]
      rfl

set_option maxRecDepth 100000 in
set_option maxHeartbeats 4000000 in
theorem order_walk (a b : ByteArray) (ha : a.size ≤ 1048576) (hb : b.size ≤ 1048576) (w : World) :
    Calls Try.prog 4 #[.string a, .string b] w fun e w' => e = .returned (.bool true) ∧ Below w.heap.size w w' := by
  go_enter Try.func4, Try.ntmps4
  go_wp2_with fail
  refine (runes_any a _ ha).mono ?_
  rintro e w1 ⟨A, ca, x, p, rfl, HB1, HX, HCA, HP, HXL⟩
  go_wp2_with fail
  refine (runes_any b _ hb).mono ?_
  rintro e w2 ⟨B, cb, y, q, rfl, HB2, HY, HCB, HQ, HYL⟩
  have hs1 := HB1.out.size
  have hs2 := HB2.out.size
  have HX2 : Hid (Kd.C (Kd.int .i32) w2 A x.length x) := Kd.C_below HX.out HB2.out
  have HB : Hid (Below w.heap.size w w2) := HB1.out.trans (HB2.out.mono hs1)
  have hxl := HXL.out
  have hyl := HYL.out
  have hca := HCA.out
  have hcb := HCB.out
  clear HX HB1 HB2 HXL HYL HCA HCB
  by_cases h1 : (100 : Int) < a.size
  · have h1b : decide ((100 : Int) < a.size) = true := decide_eq_true h1
    go_wp2_with (go_at_call 10; refine (awake_calls _).mono ?_; rintro e w' ⟨rfl, hb1⟩; have HW := Lib.hid hb1; clear hb1)
    go_ret
    exact ⟨rfl, HB.out.trans (HW.out.mono (by omega))⟩
  · have h1b : decide ((100 : Int) < a.size) = false := decide_eq_false h1
    by_cases h2 : (100 : Int) < b.size
    · have h2b : decide ((100 : Int) < b.size) = true := decide_eq_true h2
      go_wp2_with (go_at_call 10; refine (awake_calls _).mono ?_; rintro e w' ⟨rfl, hb1⟩; have HW := Lib.hid hb1; clear hb1)
      go_ret
      exact ⟨rfl, HB.out.trans (HW.out.mono (by omega))⟩
    · have h2b : decide ((100 : Int) < b.size) = false := decide_eq_false h2
      cases p with
      | false =>
        go_wp2_with (go_at_call 10; refine (awake_calls _).mono ?_; rintro e w' ⟨rfl, hb1⟩; have HW := Lib.hid hb1; clear hb1)
        go_ret
        exact ⟨rfl, HB.out.trans (HW.out.mono (by omega))⟩
      | true =>
      cases q with
      | false =>
        go_wp2_with (go_at_call 10; refine (awake_calls _).mono ?_; rintro e w' ⟨rfl, hb1⟩; have HW := Lib.hid hb1; clear hb1)
        go_ret
        exact ⟨rfl, HB.out.trans (HW.out.mono (by omega))⟩
      | true =>
      have hord : Lib.compareBytes a.data.toList b.data.toList = cmpI x y := by
        have e1 := (runesOf_iff a x).1 HP.out
        have e2 := (runesOf_iff b y).1 HQ.out
        rw [e1.1, e2.1]
        exact order x y e1.2 e2.2
      have HCMP : Hid (∀ W, Calls Try.prog 11 #[.string a, .string b] W fun e w' => e = .returned (.int .i64 (cmpI x y)) ∧ W = w') := fun W => hord ▸ compare_calls a b W
      clear hord HP HQ
      go_wp2_with fail
      go_loopw [9, 10] (fun vw vi wr => ∃ (m : Nat) (i want : Int), wr = w2.drewN m ∧ vi = .int .i64 i ∧ vw = .int .i64 want ∧ -1 ≤ want ∧ want ≤ 1 ∧ 0 ≤ i ∧ i ≤ x.length ∧ i ≤ y.length ∧ Hid (cmpI x y = if want = 0 then cmpI (x.drop i.toNat) (y.drop i.toNat) else want)) (fun _ vi wr => x.length - (intOf vi).toNat)
      case atStart => exact ⟨0, 0, 0, rfl, rfl, rfl, by omega, by omega, by omega, by omega, by omega, by show _ = _; simp⟩
      case round =>
        obtain ⟨m, i, want, rfl, rfl, rfl, hw0, hw1, hi0, hkx, hky, hrel⟩ := hrel
        by_cases hgo : i < x.length ∧ i < y.length ∧ want = 0
        · obtain ⟨kx, ky, rfl⟩ := hgo
          have hst := cmpI_step x y i.toNat (by omega) (by omega)
          rw [show ((i.toNat : Nat) : Int) = i from by omega] at hst
          have hr0 : cmpI x y = cmpI (x.drop i.toNat) (y.drop i.toNat) := by have := hrel.out; simpa using this
          have HR := Lib.hid (hr0.trans hst)
          clear hr0 hst hrel
          obtain ⟨ad1, e1, hx1⟩ := Kd.at_int HX2.out i hi0 kx
          cases e1
          obtain ⟨ad2, e2, hx2⟩ := Kd.at_int HY.out i hi0 ky
          cases e2
          have kxb : decide (i < (x.length : Int)) = true := decide_eq_true kx
          have kyb : decide (i < (y.length : Int)) = true := decide_eq_true ky
          have p1 := eq_true hi0
          have q1 := eq_true kx
          have q2 := eq_true ky
          generalize rd x i = u at *
          generalize rd y i = v at *
          by_cases c1 : u < v
          · have c1b : decide (u < v) = true := decide_eq_true c1
            have hr1 : cmpI x y = -1 := by rw [HR.out, if_pos c1]
            have HR1 := Lib.hid hr1
            clear hr1 HR
            go_wp2_with fail
            go_quiet (fail)
            go_wp2_with fail
            go_roundw
            case rel => exact ⟨_, i + 1, -1, by first | rfl | (simp; done), rfl, rfl, by omega, by omega, by omega, by omega, by omega, HR1.out⟩
            case measure => simp [intOf]; omega
          · have c1b : decide (u < v) = false := decide_eq_false c1
            by_cases c2 : v < u
            · have c2b : decide (v < u) = true := decide_eq_true c2
              have hr1 : cmpI x y = 1 := by rw [HR.out, if_neg c1, if_pos c2]
              have HR1 := Lib.hid hr1
              clear hr1 HR
              go_wp2_with fail
              go_quiet (fail)
              go_wp2_with fail
              go_quiet (fail)
              go_wp2_with fail
              go_roundw
              case rel => exact ⟨_, i + 1, 1, by first | rfl | (simp; done), rfl, rfl, by omega, by omega, by omega, by omega, by omega, HR1.out⟩
              case measure => simp [intOf]; omega
            · have c2b : decide (v < u) = false := decide_eq_false c2
              have hr1 : cmpI x y = cmpI (x.drop (i + 1).toNat) (y.drop (i + 1).toNat) := by rw [show (i + 1).toNat = i.toNat + 1 from by omega, HR.out, if_neg c1, if_neg c2]
              have HR1 := Lib.hid hr1
              clear hr1 HR
              go_wp2_with fail
              go_quiet (fail)
              go_wp2_with fail
              go_quiet (fail)
              go_wp2_with fail
              go_roundw
              case rel => exact ⟨_, i + 1, 0, by first | rfl | (simp; done), rfl, rfl, by omega, by omega, by omega, by omega, by omega, HR1.out⟩
              case measure => simp [intOf]; omega
        · have hfin : cmpI x y = if want = 0 then (if x.length = y.length then 0 else if x.length < y.length then -1 else 1) else want := by
            rw [hrel.out]
            by_cases hz : want = 0
            · rw [if_pos hz, if_pos hz]
              exact cmpI_ends x y i.toNat (by omega) (by omega) (by omega)
            · rw [if_neg hz, if_neg hz]
          have HF := Lib.hid hfin
          clear hfin hrel
          clear HX2 HY
          generalize x.length = lx at *
          generalize y.length = ly at *
          obtain ⟨V, HV, hV⟩ : ∃ V : Int, Hid (cmpI x y = V) ∧ V = if want = 0 then (if lx = ly then 0 else if lx < ly then -1 else 1) else want := ⟨_, HF.out, rfl⟩
          have H3 := Lib.hid fun W => HV.out ▸ HCMP.out W
          clear HV HF HCMP
          have hcases : (want ≠ 0 ∧ want = V) ∨ (0 = want ∧ lx = ly ∧ 0 = V) ∨ (0 = want ∧ lx < ly ∧ -1 = V) ∨ (0 = want ∧ ly < lx ∧ 1 = V) := by
            by_cases hz : want = 0
            · rw [if_pos hz] at hV
              rcases Nat.lt_trichotomy lx ly with hl | hl | hl
              · rw [if_neg (by omega), if_pos hl] at hV
                exact .inr (.inr (.inl ⟨hz.symm, hl, hV.symm⟩))
              · rw [if_pos hl] at hV
                exact .inr (.inl ⟨hz.symm, hl, hV.symm⟩)
              · rw [if_neg (by omega), if_neg (by omega)] at hV
                exact .inr (.inr (.inr ⟨hz.symm, hl, hV.symm⟩))
            · rw [if_neg hz] at hV
              exact .inl ⟨hz, hV.symm⟩
          clear hV
          rcases hcases with ⟨hz, rfl⟩ | ⟨rfl, rfl, rfl⟩ | ⟨rfl, hl, rfl⟩ | ⟨rfl, hl, rfl⟩
          · have hzb : (want == 0) = false := beq_eq_false_iff_ne.2 hz
            clear hz hgo
            cases kxb : decide (i < (lx : Int)) <;> cases kyb : decide (i < (ly : Int))
            all_goals
              go_wp2_with fail
              refine (H3.out _).mono ?_
              rintro e w' ⟨rfl, rfl⟩
              go_wp2_with fail
              refine (awake_calls _).mono ?_
              rintro e w' ⟨rfl, hb1⟩
              have HW := Lib.hid hb1
              clear hb1
              go_wp2_with fail
              go_ret
              exact ⟨by simp, (pw_below_drewN HB.out _).trans (HW.out.mono (by simp; omega))⟩
          · have kxb : decide (i < (lx : Int)) = false := decide_eq_false (by omega)
            go_wp2_with fail
            refine (H3.out _).mono ?_
            rintro e w' ⟨rfl, rfl⟩
            go_wp2_with fail
            refine (awake_calls _).mono ?_
            rintro e w' ⟨rfl, hb1⟩
            have HW := Lib.hid hb1
            clear hb1
            go_wp2_with fail
            go_ret
            exact ⟨by simp, (pw_below_drewN HB.out _).trans (HW.out.mono (by simp; omega))⟩
          · have kxb : decide (i < (lx : Int)) = false := decide_eq_false (by omega)
            have n1 : decide (lx < ly) = true := decide_eq_true hl
            have n2 : ((lx : Int) != (ly : Int)) = true := bne_iff_ne.2 (by omega)
            have n3 : (lx != ly) = true := bne_iff_ne.2 (by omega)
            go_wp2_with fail
            refine (H3.out _).mono ?_
            rintro e w' ⟨rfl, rfl⟩
            go_wp2_with fail
            refine (awake_calls _).mono ?_
            rintro e w' ⟨rfl, hb1⟩
            have HW := Lib.hid hb1
            clear hb1
            go_wp2_with fail
            go_ret
            exact ⟨by simp, (pw_below_drewN HB.out _).trans (HW.out.mono (by simp; omega))⟩
          · have kyb : decide (i < (ly : Int)) = false := decide_eq_false (by omega)
            have n1 : decide (lx < ly) = false := decide_eq_false (by omega)
            have n2 : ((lx : Int) != (ly : Int)) = true := bne_iff_ne.2 (by omega)
            have n3 : (lx != ly) = true := bne_iff_ne.2 (by omega)
            cases kxb : decide (i < (lx : Int))
            all_goals
              go_wp2_with fail
              refine (H3.out _).mono ?_
              rintro e w' ⟨rfl, rfl⟩
              go_wp2_with fail
              refine (awake_calls _).mono ?_
              rintro e w' ⟨rfl, hb1⟩
              have HW := Lib.hid hb1
              clear hb1
              go_wp2_with fail
              go_ret
              exact ⟨by simp, (pw_below_drewN HB.out _).trans (HW.out.mono (by simp; omega))⟩
end Go.Proofs.Ythnckedfkmfglaa
