/- Low; the walk of SlotsLeast. -/
import Derived.Test.YtimndkjgagdphaaWho
import Derived.Test.YtimndkjgagdphaaPSlotsLeastx1
namespace Go.Proofs.Ytimndkjgagdphaa
open Go.RowKit Go.Proofs.YtimndkjgagdphaaW.PrintWords Go.Proofs.YtimndkjgagdphaaW.PrintLast
set_option linter.unusedVariables false
set_option linter.unusedSimpArgs false

theorem low_some (x n : Int) (h1 : 1 ≤ n) (h2 : n ≤ 1000000) : ∃ r, PSlotsLeast.inkhornlaw0_Low.f x n = some r ∧ 0 ≤ r ∧ r < n := by
  unfold PSlotsLeast.inkhornlaw0_Low.f
  have e : IntKind.u64.wrap n = n := by
    unfold IntKind.wrap
    simp [IntKind.bits, IntKind.signed]
    omega
  have e2 : 0 ≤ IntKind.u64.wrap x := by
    unfold IntKind.wrap
    simp [IntKind.bits, IntKind.signed]
    omega
  rw [e, if_neg (by omega)]
  generalize IntKind.u64.wrap x = u at *
  have hm := Int.tmod_eq_emod_of_nonneg e2 (b := n)
  rw [hm]
  have h3 := Int.emod_nonneg u (by omega : n ≠ 0)
  have h4 := Int.emod_lt_of_pos u (by omega : 0 < n)
  have hw : wrap64 (u % n) = u % n := by unfold wrap64; omega
  exact ⟨_, rfl, by rw [hw]; exact h3, by rw [hw]; exact h4⟩
theorem low_calls (x n : Int) (h1 : 1 ≤ n) (h2 : n ≤ 1000000) : ∃ r : Int, (0 ≤ r ∧ r < n) ∧ ∀ w, Calls Try.prog 9 #[.int .i64 x, .int .i64 n] w fun e w' => e = .returned (.int .i64 r) ∧ Drawn0 w w' := by
  obtain ⟨r, h, h3, h4⟩ := low_some x n h1 h2
  exact ⟨r, ⟨h3, h4⟩, fun w => PSlotsLeast.inkhornlaw0_Low.calls x n r w h⟩

/-- A row that came in: its numbers up to its capacity. -/
def RowIn (k : IntKind) (w : World) (a : Option Addr) (len cap : Nat) (zs : List Int) : Prop :=
  (a = none ∧ len = 0 ∧ cap = 0 ∧ zs = []) ∨
  ∃ x, a = some x ∧ len ≤ cap ∧ cap ≤ maxLen ∧ zs.length = cap ∧ (∀ i, i < zs.length → w.cell? (x.add i) = some (.int k (zs.getD i 0))) ∧ ∀ n ∈ zs, (Lit.int k n).wf = true
/-- m cells behind an address read as f says. -/
def Rd (w : World) (A : Option Addr) (m : Nat) (f : Nat → Value) : Prop := ∀ k, k < m → ∃ ad, A = some ad ∧ w.cell? (ad.add k) = some (f k)
theorem rd_below {w w1 : World} {A : Option Addr} {m : Nat} {f : Nat → Value} (h : Rd w A m f) (hb : Below w.heap.size w w1) : Rd w1 A m f := by
  intro k hk
  obtain ⟨ad, e, hc⟩ := h k hk
  refine ⟨ad, e, ?_⟩
  rw [hb.cell]
  · exact hc
  · unfold World.cell? at hc
    by_cases hl : (ad.add k).block < w.heap.size
    · exact hl
    · rw [Array.getElem?_eq_none (by omega)] at hc
      simp at hc
theorem rd_row {k : IntKind} {w : World} {a : Option Addr} {len cap : Nat} {zs : List Int} (h : RowIn k w a len cap zs) : Rd w a len (fun j => .int k (zs.getD j 0)) := by
  rcases h with ⟨rfl, rfl, _, _⟩ | ⟨x, rfl, hl, _, hz, hc, _⟩
  · intro j hj; omega
  · intro j hj
    exact ⟨x, rfl, hc j (by omega)⟩
theorem rd_cell {w : World} {A : Option Addr} {m : Nat} {f : Nat → Value} (h : Rd w A m f) (k : Nat) (hk : k < m) : ∃ ad, A = some ad ∧ w.cell? (ad.add k) = some (f k) := h k hk

theorem least_awake (A : Option Addr) (len c : Nat) (most : Int) (hlt : (60 : Int) < len) (hb : len ≤ 9223372036854775807) (w : World) :
    Calls Try.prog 4 #[.int .i64 most, .slice A len c] w fun e w' => e = .returned (.bool true) ∧ Below w.heap.size w w' := by
  have hltb : decide ((60 : Int) < len) = true := decide_eq_true hlt
  go_enter Try.func4, Try.ntmps4
  go_wp2_with (go_at_call 8; refine (awake_calls _).mono ?_; rintro e w' ⟨rfl, hb1⟩; have HB := Lib.hid hb1; clear hb1)
  go_ret
  exact ⟨rfl, HB.out⟩

theorem wa_new (w : World) : Wa (w.alloc (.cells #[.int .i64 0, .int .i64 0, .int .i64 0, .int .i64 0] 30 (0, 0))) w.heap.size (fun _ => 0) := new_block w _

set_option maxRecDepth 100000 in
set_option maxHeartbeats 8000000 in
theorem least_go (A : Option Addr) (len c : Nat) (f : Nat → Int) (most : Int) (hl : len ≤ 60) (hc : len ≤ c) (w : World) (hr : Rd w A len (fun j => .int .i64 (f j))) :
    Calls Try.prog 4 #[.int .i64 most, .slice A len c] w fun e w' => e = .returned (.bool true) ∧ Below w.heap.size w w' := by
  have hltb : decide ((60 : Int) < len) = false := decide_eq_false (by omega)
  obtain ⟨m, ⟨m0, m1⟩, LM⟩ := low_calls most 4 (by omega) (by omega)
  have HLM := Lib.hid LM
  have HX := Lib.hid hr
  clear LM hr
  obtain ⟨n, hn⟩ : ∃ n, n = 1 + m := ⟨_, rfl⟩
  have n0 : 1 ≤ n := by omega
  have n1 : n ≤ 4 := by omega
  go_enter Try.func4, Try.ntmps4
  go_wp2_with fail
  refine (HLM.out _).mono ?_
  rintro e w1 ⟨rfl, ⟨⟨d1, rfl⟩⟩⟩
  go_wp2_with fail
  rw [← hn]
  clear hn m0 m1
  refine (new_calls n n0 n1 _).mono ?_
  rintro e w1 ⟨h, rfl, hh, hS, hb⟩
  have HHH : Hid (w.heap.size ≤ h) := hh
  have hb' : Below w.heap.size w w1 := below_step0 (pw_below_drewN (Below.refl _ _) d1) hb
  have HGW : Hid (h + 3 ≤ w1.heap.size) := isS_lt hS
  have HGW2 : Hid (w.heap.size ≤ w1.heap.size) := hb'.size
  have HS0 := Lib.hid (isS_below hS (below_al w1 (.cells #[.int .i64 0, .int .i64 0, .int .i64 0, .int .i64 0] 30 (0, 0))))
  have HW0 := Lib.hid (wa_new w1)
  have HB0 := Lib.hid (below_step0 hb' (below_al w1 (.cells #[.int .i64 0, .int .i64 0, .int .i64 0, .int .i64 0] 30 (0, 0))))
  clear hh hS hb hb'
  go_upto_region 8 with fail
  generalize w1.alloc (.cells #[.int .i64 0, .int .i64 0, .int .i64 0, .int .i64 0] 30 (0, 0)) = w2 at *
  generalize w1.heap.size = gw at *
  go_wp2_with fail
  go_loopw [9, 10] (fun vl vi wr => ∃ (s : SS) (i : Int), vl = .int .i64 s.last ∧ vi = .int .i64 i ∧ 0 ≤ i ∧ i ≤ len ∧ s.last ≤ i ∧ Hid (s.most = n) ∧ Hid (IsS wr h s) ∧ Hid (Wa wr gw s.who) ∧ Hid (Below w.heap.size w wr)) (fun _ vi wr => len - (intOf vi).toNat)
  case atStart => exact ⟨SS.init n, 0, rfl, rfl, by omega, by omega, Int.le_refl _, rfl, HS0.out, HW0.out, HB0.out⟩
  case round =>
    obtain ⟨s, i, rfl, rfl, hi0, hi1, hi2, HMO, HS, HW, HB⟩ := hrel
    by_cases hlt : i < len
    · have hltd : decide (i < (len : Int)) = true := decide_eq_true hlt
      have l0 := HS.out.wf.l0
      have hmo := HMO.out
      by_cases hc : (s.cnt : Int) = s.most
      · have HQA := Lib.hid (fun j a b => full_all HS.out.wf hc j a b)
        have hsub : s.submit true = (s, 2, 0, 0) := by unfold SS.submit; rw [if_neg (by simp), if_pos hc]
        have SC := Lib.hid (fun W hS => submit_calls h s ⟨#[97]⟩ 1 1 W (by decide) (by omega) hS)
        rw [may_a, hsub] at SC
        clear hc hsub hmo
        go_wp2_with fail
        go_loop [11] (fun v => ∃ k : Int, v = .int .i64 k ∧ 0 ≤ k ∧ k ≤ n) (fun v => n.toNat - (intOf v).toNat)
        case atStart => exact ⟨0, rfl, by omega, by omega⟩
        case round =>
        obtain ⟨k, rfl, hk0, hk1⟩ := hrel
        by_cases hkn : k < n
        · have hknb : decide (k < n) = true := decide_eq_true hkn
          have hne := HQA.out k hk0 (by rw [HMO.out]; exact hkn)
          have hnn := who_nonneg HS.out.wf k
          have hgt : decide (0 < s.who k) = true := decide_eq_true (by omega)
          have hck := wa_cell HW.out k hk0 (by omega)
          have k4 : k < 4 := by omega
          clear hne hnn
          go_wp2_with fail
          go_round
          case rel => exact ⟨k + 1, rfl, by omega, by omega⟩
          case measure => simp [intOf]; omega
        have hknb : decide (k < n) = false := decide_eq_false hkn
        obtain rfl : n = k := by omega
        go_wp2_with fail
        refine (SC.out _ HS.out).mono ?_
        rintro e w2 ⟨rfl, hS, hC⟩
        have HS1 := Lib.hid hS
        have HW1 := Lib.hid (wa_chg HW.out hC (.inr HGW.out))
        have HB1 := Lib.hid (below_chg HB.out hC HHH.out)
        clear hS hC

        obtain ⟨ad, rfl, hcell⟩ := rd_cell (rd_below HX.out HB1.out) i.toNat (by omega)
        generalize f i.toNat = x at hcell
        obtain ⟨y, ⟨y0, y1⟩, LY⟩ := low_calls x (2 * n) (by omega) (by omega)
        have HLY := Lib.hid LY
        clear LY
        by_cases hyn : y < n
        · have hynb : decide (y < n) = true := decide_eq_true hyn
          have y4 : y < 4 := by omega
          go_wp2_with fail
          refine (HLY.out _).mono ?_
          rintro e w3 ⟨rfl, ⟨⟨n1, rfl⟩⟩⟩
          have HF := Lib.hid (find_who HS1.out.wf y)
          have HFW := Lib.hid (free_who HS1.out.wf y)
          have hwy := wa_cell HW1.out y y0 y4
          go_wp2_with fail
          go_region_held3 (fun w' => w'.cell? ⟨gw, y.toNat, none⟩ = some (.int .i64 ((s).who y))) (first | exact hwy | exact hwz)
            (first
            | (go_at_call 11; refine (free_calls h (s) ((s).who y) _ (isS_drew (isS_drewN HS1.out _))).mono ?_; rintro e w4 ⟨rfl, hS, hC⟩; have HS4 := Lib.hid hS; have HC4 := Lib.hid hC; have HW4 := Lib.hid (wa_chg (show Wa (w2.drewN n1).drew gw (s).who from HW1.out) hC (.inr HGW.out)); have hwz := wa_cell HW4.out y y0 y4; clear hS hC))
          have HB4 := Lib.hid (below_chg (show Below w.heap.size w (w2.drewN n1).drew from pw_below_drewN (pw_below_drewN HB1.out n1) 1) HC4.out HHH.out)
          have hfr := wa_free HW4.out y.toNat
          rw [HF.out]
          generalize decide (0 < (s).who y) = bb
          cases bb
          all_goals
            go_wp2_with fail
            go_roundw
            case rel => exact ⟨(s).free ((s).who y), i + 1, rfl, rfl, by omega, by omega, by show s.last ≤ i + 1; omega, HMO.out, isS_set HS4.out _ _ (.inr HGW.out), (by rw [HFW.out]; exact wa_set HW4.out y 0 y0 y4), below_set HB4.out _ _ HGW2.out⟩
            case measure => simp [intOf]; omega
        · have hynb : decide (y < n) = false := decide_eq_false hyn
          go_wp2_with fail
          refine (HLY.out _).mono ?_
          rintro e w3 ⟨rfl, ⟨⟨n1, rfl⟩⟩⟩
          go_wp2_with fail
          go_roundw
          case rel => exact ⟨s, i + 1, rfl, rfl, by omega, by omega, by omega, HMO.out, isS_drewN HS1.out _, HW1.out, pw_below_drewN HB1.out _⟩
          case measure => simp [intOf]; omega
      · have hsub : s.submit true = (s.put, 3, s.last + 1, s.least) := by unfold SS.submit; rw [if_neg (by simp), if_neg hc]
        have SC := Lib.hid (fun W hS => submit_calls h s ⟨#[97]⟩ 1 1 W (by decide) (by omega) hS)
        rw [may_a, hsub] at SC
        obtain ⟨q0, q1, q2, q3⟩ := least_ok HS.out.wf hc
        rw [hmo] at q2
        have HQ := Lib.hid (And.intro q0 q3)
        have q4 : s.least < 4 := by omega
        clear hc hsub hmo q0 q3
        go_wp2_with fail
        go_loop [11] (fun v => ∃ k : Int, v = .int .i64 k ∧ 0 ≤ k ∧ k ≤ s.least) (fun v => s.least.toNat - (intOf v).toNat)
        case atStart => exact ⟨0, rfl, by omega, by omega⟩
        case round =>
        obtain ⟨k, rfl, hk0, hk1⟩ := hrel
        have hknb : decide (k < n) = true := decide_eq_true (by omega)
        have hck := wa_cell HW.out k hk0 (by omega)
        have k4 : k < 4 := by omega
        by_cases hkn : k < s.least
        · have hne := HQ.out.2 k hk0 hkn
          have hnn := who_nonneg HS.out.wf k
          have hgt : decide (0 < s.who k) = true := decide_eq_true (by omega)
          clear hne hnn
          go_wp2_with fail
          go_round
          case rel => exact ⟨k + 1, rfl, by omega, by omega⟩
          case measure => simp [intOf]; omega
        obtain rfl : k = s.least := by omega
        rw [HQ.out.1] at hck
        have hleb : (s.least == n) = false := by rw [beq_eq_false_iff_ne]; omega
        go_wp2_with fail
        refine (SC.out _ HS.out).mono ?_
        rintro e w5 ⟨rfl, hS, hC⟩
        have HS5 := Lib.hid hS
        have HW5 := Lib.hid (wa_chg HW.out hC (.inr HGW.out))
        have HB5 := Lib.hid (below_chg HB.out hC HHH.out)
        have hfr5 := wa_free HW5.out s.least.toNat
        have hck5 := wa_cell HW5.out s.least q1 q4
        clear hS hC hck
        go_upto_region 23 with fail
        have HS1 := Lib.hid (isS_set HS5.out s.least.toNat (.int .i64 (s.last + 1)) (.inr HGW.out))
        have HW1 : Hid (Wa (w5.setCell ⟨gw, s.least.toNat, none⟩ (.int .i64 (s.last + 1))) gw s.put.who) := wa_set HW5.out s.least (s.last + 1) q1 q4
        have HB1 := Lib.hid (below_set HB5.out s.least.toNat (.int .i64 (s.last + 1)) HGW2.out)
        generalize w5.setCell ⟨gw, s.least.toNat, none⟩ (.int .i64 (s.last + 1)) = w2 at *
        clear HS5 HW5 HB5 hfr5 hck5

        obtain ⟨ad, rfl, hcell⟩ := rd_cell (rd_below HX.out HB1.out) i.toNat (by omega)
        generalize f i.toNat = x at hcell
        obtain ⟨y, ⟨y0, y1⟩, LY⟩ := low_calls x (2 * n) (by omega) (by omega)
        have HLY := Lib.hid LY
        clear LY
        by_cases hyn : y < n
        · have hynb : decide (y < n) = true := decide_eq_true hyn
          have y4 : y < 4 := by omega
          go_wp2_with fail
          refine (HLY.out _).mono ?_
          rintro e w3 ⟨rfl, ⟨⟨n1, rfl⟩⟩⟩
          have HF := Lib.hid (find_who HS1.out.wf y)
          have HFW := Lib.hid (free_who HS1.out.wf y)
          have hwy := wa_cell HW1.out y y0 y4
          go_wp2_with fail
          go_region_held3 (fun w' => w'.cell? ⟨gw, y.toNat, none⟩ = some (.int .i64 ((s.put).who y))) (first | exact hwy | exact hwz)
            (first
            | (go_at_call 11; refine (free_calls h (s.put) ((s.put).who y) _ (isS_drew (isS_drewN HS1.out _))).mono ?_; rintro e w4 ⟨rfl, hS, hC⟩; have HS4 := Lib.hid hS; have HC4 := Lib.hid hC; have HW4 := Lib.hid (wa_chg (show Wa (w2.drewN n1).drew gw (s.put).who from HW1.out) hC (.inr HGW.out)); have hwz := wa_cell HW4.out y y0 y4; clear hS hC))
          have HB4 := Lib.hid (below_chg (show Below w.heap.size w (w2.drewN n1).drew from pw_below_drewN (pw_below_drewN HB1.out n1) 1) HC4.out HHH.out)
          have hfr := wa_free HW4.out y.toNat
          rw [HF.out]
          generalize decide (0 < (s.put).who y) = bb
          cases bb
          all_goals
            go_wp2_with fail
            go_roundw
            case rel => exact ⟨(s.put).free ((s.put).who y), i + 1, rfl, rfl, by omega, by omega, by show s.last + 1 ≤ i + 1; omega, HMO.out, isS_set HS4.out _ _ (.inr HGW.out), (by rw [HFW.out]; exact wa_set HW4.out y 0 y0 y4), below_set HB4.out _ _ HGW2.out⟩
            case measure => simp [intOf]; omega
        · have hynb : decide (y < n) = false := decide_eq_false hyn
          go_wp2_with fail
          refine (HLY.out _).mono ?_
          rintro e w3 ⟨rfl, ⟨⟨n1, rfl⟩⟩⟩
          go_wp2_with fail
          go_roundw
          case rel => exact ⟨s.put, i + 1, rfl, rfl, by omega, by omega, by show s.last + 1 ≤ i + 1; omega, HMO.out, isS_drewN HS1.out _, HW1.out, pw_below_drewN HB1.out _⟩
          case measure => simp [intOf]; omega
    · have hltd : decide (i < (len : Int)) = false := decide_eq_false hlt
      go_wp2_with fail
      refine (last_calls h s _ HS.out).mono ?_
      rintro e w6 ⟨rfl, rfl⟩
      go_wp2_with fail
      refine (awake_calls _).mono ?_
      rintro e w3 ⟨rfl, hb3⟩
      have HB3 := Lib.hid hb3
      clear hb3
      go_wp2_with fail
      go_ret
      exact ⟨by simp, below_step0 HB.out HB3.out⟩
theorem least_walk (most : Int) (A : Option Addr) (len c : Nat) (zs : List Int) (w : World) (hn : (Lit.int .i64 most).wf = true) (h : RowIn .i64 w A len c zs) (hy : len * 8 ≤ 140737488351232) :
    Calls Try.prog 4 #[.int .i64 most, .slice A len c] w fun e w' => e = .returned (.bool true) ∧ Below w.heap.size w w' := by
  by_cases hlt : (60 : Int) < len
  · exact least_awake A len c most hlt (by omega) w
  · have hr := rd_row h
    refine least_go A len c (fun j => zs.getD j 0) most (by omega) ?_ w hr
    rcases h with ⟨_, h1, h2, _⟩ | ⟨x, h1, h2, _⟩
    · omega
    · exact h2
end Go.Proofs.Ytimndkjgagdphaa
