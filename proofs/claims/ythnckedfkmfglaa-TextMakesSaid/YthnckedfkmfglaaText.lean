/- The walk of text.Text: the text of runes, or none. -/
import Derived.Test.YthnckedfkmfglaaAwake
import Derived.Test.YthnckedfkmfglaaLaw
namespace Go.Proofs.Ythnckedfkmfglaa
open Go.RowKit Go.Proofs.YthnckedfkmfglaaW.PrintWords Go.Proofs.YthnckedfkmfglaaW.PrintLast
set_option linter.unusedVariables false
set_option linter.unusedSimpArgs false

def goodB (r : Int) : Bool := decide ((0 ≤ r ∧ r ≤ 1114111) ∧ (r < 55296 ∨ 57343 < r) ∧ r ≠ 65533)
theorem goodB_iff (r : Int) : goodB r = true ↔ Good r := by
  unfold goodB Good
  rw [valid_iff]
  simp only [decide_eq_true_eq]
  omega

theorem conv_runes (w : World) (A : Option Addr) (c : Nat) (l : List Int) (h : Kd.C (Kd.int .i32) w A l.length l) :
    (convert 25 9 (.slice A l.length c)).run Try.prog w = .ok (.string (runesBytes l)) w := by
  have hr := Kd.reads_of_C (enc := Value.int .i32) (d := (0 : Int)) (h1 := fun _ => rfl) h
  cases A with
  | none =>
    have h0 : l = [] := by
      cases l with
      | nil => rfl
      | cons x l =>
        obtain ⟨ad, e, _⟩ := hr.2.2 (by simp)
        cases e
    subst h0
    exact run_convert_runes_nil w 25 9 21 _ _ Try.underlying25 Try.underlying21 Try.underlying9
  | some ad =>
    have := run_convert_runes (P := Try.prog) w 25 9 21 ad l.length c l (Nat.le_refl _) Try.underlying25 Try.underlying21 Try.underlying9 (fun j hj => by
      obtain ⟨ad', e, hc⟩ := hr.2.2 (by omega)
      injection e with e
      subst e
      exact hc j hj)
    rw [List.take_of_length_le (Nat.le_refl _)] at this
    exact this

theorem take_all (l : List Int) (i : Int) (h0 : 0 ≤ i) (h1 : i < l.length) : (l.take (i + 1).toNat).all goodB = ((l.take i.toNat).all goodB && goodB (rd l i)) := by
  rw [show (i + 1).toNat = i.toNat + 1 from by omega, List.take_succ_eq_append_getElem (by omega), List.all_append]
  have e : rd l i = l[i.toNat]'(by omega) := by
    unfold rd
    rw [List.getD_eq_getElem?_getD, List.getElem?_eq_getElem (by omega)]; rfl
  rw [e]; simp

theorem not_all (l : List Int) (i : Int) (h0 : 0 ≤ i) (h1 : i < l.length) (h : goodB (rd l i) = false) : l.all goodB = false := by
  rw [List.all_eq_false]
  refine ⟨l[i.toNat]'(by omega), List.getElem_mem _, ?_⟩
  have e : rd l i = l[i.toNat]'(by omega) := by
    unfold rd
    rw [List.getD_eq_getElem?_getD, List.getElem?_eq_getElem (by omega)]; rfl
  rw [← e, h]; simp

def TextPost (l : List Int) (w : World) (e : Ending) (w' : World) : Prop :=
  w = w' ∧ e = .returned (.tuple #[.string (if l.all goodB then runesBytes l else ⟨#[]⟩), .bool (l.all goodB)])

set_option maxRecDepth 100000 in
set_option maxHeartbeats 4000000 in
theorem text_calls (A : Option Addr) (c : Nat) (l : List Int) (w : World) (h : Kd.C (Kd.int .i32) w A l.length l) (hc : l.length ≤ c) (hl : l.length ≤ 9223372036854775806) :
    Calls Try.prog 27 #[.slice A l.length c] w (TextPost l w) := by
  have hcv := conv_runes w A c l h
  have HX := Lib.hid h
  clear h
  go_enter Try.func27, Try.ntmps27
  go_wp2_with fail
  go_loop [8] (fun vi => ∃ i : Int, vi = .int .i64 i ∧ 0 ≤ i ∧ i ≤ l.length ∧ Hid ((l.take i.toNat).all goodB = true)) (fun vi => l.length - (intOf vi).toNat)
  case atStart => exact ⟨0, rfl, by omega, by omega, rfl⟩
  case round =>
    obtain ⟨i, rfl, hi0, hi1, hrel⟩ := hrel
    by_cases hlt : i < (l.length : Int)
    · have hltb : decide (i < (l.length : Int)) = true := decide_eq_true hlt
      obtain ⟨ad, e, hx⟩ := Kd.at_int HX.out i hi0 hlt
      cases e
      have p1 := eq_true hi0
      have q1 := eq_true hlt
      have hst := take_all l i hi0 hlt
      rw [hrel.out, Bool.true_and] at hst
      have hno := not_all l i hi0 hlt
      have hgb : goodB (rd l i) = decide ((0 ≤ rd l i ∧ rd l i ≤ 1114111) ∧ (rd l i < 55296 ∨ 57343 < rd l i) ∧ rd l i ≠ 65533) := rfl
      rw [hgb] at hst hno
      clear hgb hrel
      generalize rd l i = r at *
      cases c1 : decide (r < 0) <;> cases c2 : decide (1114111 < r) <;> cases c3 : decide (55296 ≤ r) <;> cases c4 : decide (r ≤ 57343) <;> cases c5 : (r == 65533)
      all_goals
        first
        | (have hg : (l.take (i + 1).toNat).all goodB = true := by
             rw [hst]; simp only [decide_eq_true_eq, decide_eq_false_iff_not, beq_iff_eq, beq_eq_false_iff_ne] at c1 c2 c3 c4 c5 ⊢; omega
           have HG := Lib.hid hg
           clear hg hst hno
           go_wp2_with fail
           go_round
           case rel => exact ⟨i + 1, rfl, by omega, by omega, HG.out⟩
           case measure => simp [intOf]; omega)
        | (have hg : l.all goodB = false := by
             apply hno; simp only [decide_eq_true_eq, decide_eq_false_iff_not, beq_iff_eq, beq_eq_false_iff_ne] at c1 c2 c3 c4 c5 ⊢; omega
           have HG := Lib.hid hg
           clear hg hst hno
           go_wp2_with fail
           go_ret2
           refine ⟨rfl, ?_⟩
           rw [HG.out]; rfl)
    · have hltb : decide (i < (l.length : Int)) = false := decide_eq_false hlt
      have hg : l.all goodB = true := by
        have := hrel.out
        rw [List.take_of_length_le (by omega)] at this
        exact this
      have HG := Lib.hid hg
      clear hg hrel
      go_wp2_with (simp only [hcv])
      all_goals
        go_ret2
        refine ⟨rfl, ?_⟩
        rw [HG.out]; rfl
end Go.Proofs.Ythnckedfkmfglaa
