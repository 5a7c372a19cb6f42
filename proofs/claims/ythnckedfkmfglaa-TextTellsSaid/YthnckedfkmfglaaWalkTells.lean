/- The walk of the law TextTells: it returns true. -/
import Derived.Test.YthnckedfkmfglaaRef2
import Derived.Test.YthnckedfkmfglaaAwake
namespace Go.Proofs.Ythnckedfkmfglaa
open Go.RowKit Go.Proofs.YthnckedfkmfglaaW.PrintWords Go.Proofs.YthnckedfkmfglaaW.PrintLast Go.Proofs.YthnckedfkmfglaaW.PrintMore
set_option linter.unusedVariables false
set_option linter.unusedSimpArgs false

/-- What Runes answers, as a pair. -/
def rp (s : ByteArray) : List Int × Bool := match runesOf s with | none => ([], false) | some l => (l, true)

theorem rp_len (s : ByteArray) : (rp s).1.length ≤ s.size := by
  unfold rp
  cases h : runesOf s with
  | none => exact Nat.zero_le _
  | some l => exact (runesFrom_len s _ _ _ h).1

def IsRow (w' : World) (base : Nat) (A : Option Addr) (c : Nat) (l : List Int) : Prop := Kd.R (Kd.int .i32) 21 w' base (fun _ => True) (.slice A l.length c) l

theorem runes_rp (s : ByteArray) (l : List Int) (b : Bool) (h : rp s = (l, b)) (hs : s.size ≤ 1048576) (w : World) : Calls Try.prog 13 #[.string s] w fun e w' =>
    ∃ A c, e = .returned (.tuple #[.slice A l.length c, .bool b]) ∧ Hid (Below w.heap.size w w') ∧ Hid (IsRow w' w.heap.size A c l) ∧ Hid (l.length ≤ c) := by
  refine (runes_calls s w hs).mono ?_
  rintro e w' ⟨hb, h1⟩
  unfold rp at h
  cases hr : runesOf s with
  | none =>
    rw [hr] at h h1
    obtain ⟨rfl, rfl⟩ := Prod.mk.inj h
    exact ⟨none, 0, h1, hb, Kd.R_nil _ _ _ _ _, Nat.zero_le _⟩
  | some x =>
    rw [hr] at h h1
    obtain ⟨rfl, rfl⟩ := Prod.mk.inj h
    obtain ⟨v, rfl, hR⟩ := h1
    obtain ⟨A, c, rfl, hc, hC⟩ := Kd.R_reads hR
    exact ⟨A, c, rfl, hb, hR, hc⟩

theorem ref_rp (s : ByteArray) (l : List Int) (b : Bool) (h : rp s = (l, b)) (hs : s.size ≤ 1048576) (w : World) : Calls Try.prog 14 #[.string s] w fun e w' =>
    ∃ A c, e = .returned (.tuple #[.slice A l.length c, .bool b]) ∧ Hid (Below w.heap.size w w') ∧ Hid (IsRow w' w.heap.size A c l) ∧ Hid (l.length ≤ c) := by
  have hf := ref_runes s hs (s.size + 3) (Nat.le_refl _)
  replace hf : PTextTells.inkhornref1_Runes.f (s.size + 3) s = some (l, b) := hf.trans (congrArg some h)
  refine (PTextTells.inkhornref1_Runes.calls _ s l b w hf).mono ?_
  rintro e w' ⟨v, rfl, hR, hb⟩
  obtain ⟨A, c, rfl, hc, hC⟩ := Kd.R_reads hR
  exact ⟨A, c, rfl, hb, hR, hc⟩

theorem row_C {w : World} {base : Nat} {A : Option Addr} {c : Nat} {l : List Int} (h : IsRow w base A c l) : Kd.C (Kd.int .i32) w A l.length l := (Kd.R_reads' h).2.2
theorem row_below {w w1 : World} {base : Nat} {A : Option Addr} {c : Nat} {l : List Int} (h : IsRow w base A c l) (hb : Below w.heap.size w w1) : IsRow w1 base A c l := Kd.R_below h hb

theorem same_row (A B : Option Addr) (c d : Nat) (l : List Int) (w : World) (hl : l.length ≤ 1048576) (h1 : Kd.C (Kd.int .i32) w A l.length l) (h2 : Kd.C (Kd.int .i32) w B l.length l) (hc : l.length ≤ c) (hd : l.length ≤ d) :
    Calls Try.prog 15 #[.slice A l.length c, .slice B l.length d] w fun e w' => e = .returned (.bool true) ∧ ∃ n, w' = w.drewN n := by
  refine (PTextTells.inkhornlaw0_SameRunes.calls _ A c l B d l true w h1 hc h2 hd (same_f l hl)).mono ?_
  rintro e w' ⟨he, ⟨n, hn⟩⟩
  exact ⟨he, n, hn⟩

/-- OverRunes writes the first row and new memory alone: the second row, which is younger, stays. -/
theorem over_row (w0 wm w : World) (A B : Option Addr) (c d : Nat) (l : List Int) (hl : l.length ≤ 1048576)
    (hB : Below w0.heap.size w0 w) (h1 : IsRow wm w0.heap.size A c l) (hm : Below wm.heap.size wm w) (wn : World) (h2 : IsRow wn wm.heap.size B d l) (hn : Below wn.heap.size wn w) :
    Calls Try.prog 24 #[.slice A l.length c] w fun e w' => e = .returned (.tuple #[]) ∧ Hid (Below w0.heap.size w0 w') ∧ Hid (Kd.C (Kd.int .i32) w' B l.length l) := by
  have ra : Kd.R (Kd.int .i32) 21 w w0.heap.size (fun k => k < wm.heap.size) (.slice A l.length c) l := Kd.R_below (Kd.R_mono (Kd.R_bound h1) (fun k hk => hk.2.2.1)) hm
  have rb : Kd.R (Kd.int .i32) 21 w wm.heap.size (fun k => wm.heap.size ≤ k) (.slice B l.length d) l := Kd.R_below (Kd.R_mono (Kd.R_bound h2) (fun k hk => hk.2.1)) hn
  refine (PTextTells.inkhornlaw0_OverRunes.calls _ (fun k => k < wm.heap.size) _ l w0 w hB ra (over_f l hl)).mono ?_
  rintro e w' ⟨he, hb, hk⟩
  exact ⟨he, hb, Kd.C_kept_own rb (fun k hk => by omega) w' hk⟩

set_option maxRecDepth 100000 in
set_option maxHeartbeats 4000000 in
theorem tells_walk (s : ByteArray) (n : Int) (hs : s.size ≤ 140737488351232) (hn : (Lit.int .i64 n).wf = true) (w : World) :
    Calls Try.prog 5 #[.string s, .int .i64 n] w fun e w' => e = .returned (.bool true) ∧ Below w.heap.size w w' := by
  obtain ⟨n0, n1⟩ : -9223372036854775808 ≤ n ∧ n ≤ 9223372036854775807 := by simpa [Lit.wf, IntKind.min, IntKind.max, IntKind.signed, IntKind.bits] using hn
  clear hn
  by_cases c1 : (300 : Int) < s.size
  · have c1b : decide ((300 : Int) < s.size) = true := decide_eq_true c1
    go_enter Try.func5, Try.ntmps5
    go_wp2_with (go_at_call 10; refine (awake_calls _).mono ?_; rintro e w' ⟨rfl, hb1⟩; have HB := Lib.hid hb1; clear hb1)
    go_ret
    exact ⟨rfl, HB.out⟩
  · have c1b : decide ((300 : Int) < s.size) = false := decide_eq_false c1
    have hs2 : s.size ≤ 1048576 := by omega
    obtain ⟨l, b, hrp⟩ : ∃ l b, rp s = (l, b) := ⟨_, _, rfl⟩
    have hll := rp_len s
    rw [hrp] at hll
    simp only at hll
    have hl : l.length ≤ 1048576 := by omega
    have HRP := Lib.hid hrp
    have CL := Lib.hid (fun W => len_calls s W hs)
    have CW := Lib.hid (fun W => word_calls s W hs)
    have CA := Lib.hid (fun W => asked_calls s W hs)
    have CP := Lib.hid (fun W => prefix_calls s n W hs n0 n1)
    have RL := Lib.hid (fun W => PTextTells.inkhornref1_Len.calls _ s _ W (ref_len s hs2 (s.size + 3) (Nat.le_refl _)))
    have RW := Lib.hid (fun W => PTextTells.inkhornref1_Word.calls _ s _ W (ref_word s hs2 (s.size + 3) (Nat.le_refl _)))
    have RA := Lib.hid (fun W => PTextTells.inkhornref1_Asked.calls _ s _ W (ref_asked s hs2 (s.size + 3) (Nat.le_refl _)))
    have RP := Lib.hid (fun W => PTextTells.inkhornref1_Prefix.calls _ s n _ W (ref_prefix s n hs2 (s.size + 3) (Nat.le_refl _)))
    generalize lenOf s = L at *
    generalize wordB s = WB at *
    generalize askedB s = AB at *
    generalize prefixOf s n = P at *
    clear hrp
    go_enter Try.func5, Try.ntmps5
    go_wp2_with fail
    refine (runes_rp s l b HRP.out hs2 _).mono ?_
    rintro e w1 ⟨A, c, rfl, HB1, HR1, HC1⟩
    go_wp2_with fail
    refine (ref_rp s l b HRP.out hs2 _).mono ?_
    rintro e w2 ⟨B, d, rfl, HB2, HR2, HC2⟩
    go_wp2_with fail
    refine (same_row A B c d l _ hl (Kd.C_below (row_C HR1.out) HB2.out) (row_C HR2.out) HC1.out HC2.out).mono ?_
    rintro e w' ⟨rfl, ⟨k1, rfl⟩⟩
    go_wp2_with fail
    refine (CL.out _).mono ?_
    rintro e w3 ⟨rfl, hb3⟩
    have HB3 := Lib.hid hb3
    clear hb3
    go_wp2_with fail
    refine (RL.out _).mono ?_
    rintro e w4 ⟨rfl, hb4⟩
    have HB4 := Lib.hid hb4
    clear hb4
    go_wp2_with fail
    refine (CW.out _).mono ?_
    rintro e w5 ⟨rfl, hb5⟩
    have HB5 := Lib.hid hb5
    clear hb5
    go_wp2_with fail
    refine (RW.out _).mono ?_
    rintro e w6 ⟨rfl, hb6⟩
    have HB6 := Lib.hid hb6
    clear hb6
    go_wp2_with fail
    refine (CA.out _).mono ?_
    rintro e w7 ⟨rfl, hb7⟩
    have HB7 := Lib.hid hb7
    clear hb7
    go_wp2_with fail
    refine (RA.out _).mono ?_
    rintro e w8 ⟨rfl, hb8⟩
    have HB8 := Lib.hid hb8
    clear hb8
    go_wp2_with fail
    refine (CP.out _).mono ?_
    rintro e w9 ⟨rfl, hb9⟩
    have HB9 := Lib.hid hb9
    clear hb9
    go_wp2_with fail
    refine (RP.out _).mono ?_
    rintro e w10 ⟨rfl, hb10⟩
    have HB10 := Lib.hid hb10
    clear hb10
    go_wp2_with fail
    have H2 : Hid (Below w2.heap.size w2 w10) := below_step (below_step (below_step (below_step (below_step (below_step (below_step (below_step (pw_below_drewN (Below.refl _ _) k1) HB3.out) HB4.out) HB5.out) HB6.out) HB7.out) HB8.out) HB9.out) HB10.out
    have H1 : Hid (Below w1.heap.size w1 w10) := below_step HB2.out H2.out
    have H0 : Hid (Below w.heap.size w w10) := below_step HB1.out H1.out
    refine (over_row w w1 w10 A B c d l hl H0.out HR1.out H1.out w2 HR2.out H2.out).mono ?_
    rintro e w11 ⟨rfl, HB11, HCB⟩
    clear HB1 HB2 HB3 HB4 HB5 HB6 HB7 HB8 HB9 HB10 HR1 HR2 H0 H1 H2
    go_wp2_with fail
    refine (runes_rp s l b HRP.out hs2 _).mono ?_
    rintro e w12 ⟨A2, c2, rfl, HB12, HR12, HC12⟩
    go_wp2_with fail
    refine (same_row A2 B c2 d l _ hl (row_C HR12.out) (Kd.C_below HCB.out HB12.out) HC12.out HC2.out).mono ?_
    rintro e w' ⟨rfl, ⟨k2, rfl⟩⟩
    go_wp2_with fail
    refine (awake_calls _).mono ?_
    rintro e w13 ⟨rfl, hb13⟩
    have HB13 := Lib.hid hb13
    clear hb13
    go_wp2_with fail
    go_ret
    exact ⟨by simp, below_step (pw_below_drewN (below_step HB11.out HB12.out) k2) HB13.out⟩
end Go.Proofs.Ythnckedfkmfglaa
