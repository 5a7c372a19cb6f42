/- The walk of the law TextMakes: it returns true. -/
import Derived.Test.YthnckedfkmfglaaLend
namespace Go.Proofs.Ythnckedfkmfglaa
open Go.RowKit Go.Proofs.YthnckedfkmfglaaW.PrintWords Go.Proofs.YthnckedfkmfglaaW.PrintLast Go.Proofs.YthnckedfkmfglaaW.PrintMore
set_option linter.unusedVariables false
set_option linter.unusedSimpArgs false

set_option maxRecDepth 100000 in
set_option maxHeartbeats 4000000 in
theorem kept_calls (g : Nat) (A : Option Addr) (c : Nat) (l : List Int) (w : World) (hL : Lent w g l) (h : Kd.C (Kd.int .i32) w A l.length l) (hc : l.length ≤ c) (hl : l.length ≤ 1048576) :
    Calls Try.prog 29 #[.slice (some ⟨g, 0, none⟩) l.length (l.length + 3), .slice A l.length c] w fun e w' => e = .returned (.bool true) ∧ ∃ n, w' = w.drewN n := by
  have HX := Lib.hid h
  have HL := Lib.hid hL
  have HLC := Lib.hid (lent_C hL hl)
  have hcut := cut_room g l.length
  clear h hL
  go_enter Try.func29, Try.ntmps29
  go_wp2_with fail
  go_loop [6] (fun vi => ∃ i : Int, vi = .int .i64 i ∧ 0 ≤ i ∧ i ≤ 3) (fun vi => 3 - (intOf vi).toNat)
  case atStart => exact ⟨0, rfl, by omega, by omega⟩
  case round =>
    obtain ⟨i, rfl, hi0, hi3⟩ := hrel
    by_cases hlt : i < 3
    · have hltb : decide (i < 3) = true := decide_eq_true hlt
      have hcell := lent_cell HL.out i.toNat (by omega)
      go_wp2_with fail
      go_round
      case rel => exact ⟨i + 1, rfl, by omega, by omega⟩
      case measure => simp [intOf]; omega
    · have hltb : decide (i < 3) = false := decide_eq_false hlt
      go_wp2_with fail
      refine (PTextTells.inkhornlaw0_SameRunes.calls _ _ _ l A c l true w HLC.out (by omega) HX.out hc (same_f l hl)).mono ?_
      rintro e w' ⟨rfl, ⟨n, rfl⟩⟩
      go_wp2_with fail
      go_ret
      exact ⟨rfl, n, rfl⟩

/-- A row that came in: its numbers up to its capacity. -/
def RowIn (k : IntKind) (w : World) (a : Option Addr) (len cap : Nat) (zs : List Int) : Prop :=
  (a = none ∧ len = 0 ∧ cap = 0 ∧ zs = []) ∨
  ∃ x, a = some x ∧ len ≤ cap ∧ cap ≤ maxLen ∧ zs.length = cap ∧ (∀ i, i < zs.length → w.cell? (x.add i) = some (.int k (zs.getD i 0))) ∧ ∀ n ∈ zs, (Lit.int k n).wf = true

theorem makes_awake (A : Option Addr) (len c : Nat) (hlt : (100 : Int) < len) (hb : len ≤ 9223372036854775807) (w : World) :
    Calls Try.prog 8 #[.slice A len c] w fun e w' => e = .returned (.bool true) ∧ Below w.heap.size w w' := by
  have hltb : decide ((100 : Int) < len) = true := decide_eq_true hlt
  go_enter Try.func8, Try.ntmps8
  go_wp2_with (go_at_call 10; refine (awake_calls _).mono ?_; rintro e w' ⟨rfl, hb1⟩; have HB := Lib.hid hb1; clear hb1)
  go_ret
  exact ⟨rfl, HB.out⟩

set_option maxRecDepth 100000 in
set_option maxHeartbeats 4000000 in
theorem makes_go (A : Option Addr) (c : Nat) (l : List Int) (hl : l.length ≤ 100) (hc : l.length ≤ c) (hnil : A = none → c = 0) (w : World) (h : Kd.C (Kd.int .i32) w A l.length l) :
    Calls Try.prog 8 #[.slice A l.length c] w fun e w' => e = .returned (.bool true) ∧ Below w.heap.size w w' := by
  have hltb : decide ((100 : Int) < l.length) = false := decide_eq_false (by omega)
  have HN := Lib.hid hnil
  have HX := Lib.hid h
  have rt := ref_text l (by omega) (l.length + 2) (Nat.le_refl _)
  have HRT := Lib.hid rt
  clear h hnil rt
  go_enter Try.func8, Try.ntmps8
  go_wp2_with fail
  refine (lend_calls A c l _ HX.out hc HN.out (by omega)).mono ?_
  rintro e w1 ⟨rfl, hL, hb⟩
  have HL := Lib.hid hL
  have HB1 := Lib.hid hb
  clear hL hb
  go_wp2_with fail
  refine (text_calls _ _ l _ (lent_C HL.out (by omega)) (by omega) (by omega)).mono ?_
  rintro e w' ⟨rfl, rfl⟩
  generalize (if l.all goodB then runesBytes l else ⟨#[]⟩) = S at *
  generalize l.all goodB = G at *
  go_wp2_with fail
  refine (PTextTells.inkhornref1_Text.calls _ A c l S G _ (Kd.C_below HX.out HB1.out) hc HRT.out).mono ?_
  rintro e w2 ⟨rfl, hb2⟩
  have HB2 := Lib.hid hb2
  clear hb2
  go_wp2_with fail
  refine (kept_calls _ A c l _ (lent_below HL.out HB2.out) (Kd.C_below (Kd.C_below HX.out HB1.out) HB2.out) hc (by omega)).mono ?_
  rintro e w' ⟨rfl, n, rfl⟩
  go_wp2_with fail
  refine (awake_calls _).mono ?_
  rintro e w3 ⟨rfl, hb3⟩
  have HB3 := Lib.hid hb3
  clear hb3
  go_wp2_with fail
  go_ret
  exact ⟨by simp, below_step (pw_below_drewN (below_step HB1.out HB2.out) n) HB3.out⟩

theorem makes_walk (A : Option Addr) (len c : Nat) (zs : List Int) (w : World) (h : RowIn .i32 w A len c zs) (hy : len * 4 ≤ 140737488351232) :
    Calls Try.prog 8 #[.slice A len c] w fun e w' => e = .returned (.bool true) ∧ Below w.heap.size w w' := by
  obtain ⟨l, rfl, hr, hm, hw, hc⟩ := ReadsInt.ofRowC h
  by_cases hlt : (100 : Int) < l.length
  · exact makes_awake A l.length c hlt (by omega) w
  · refine makes_go A c l (by omega) hc (fun e => ?_) w (Kd.C_of_reads (d := (0 : Int)) (h1 := fun _ => rfl) hr)
    rcases h with ⟨_, _, h3, _⟩ | ⟨x, h1, _⟩
    · exact h3
    · rw [e] at h1; cases h1
end Go.Proofs.Ythnckedfkmfglaa
