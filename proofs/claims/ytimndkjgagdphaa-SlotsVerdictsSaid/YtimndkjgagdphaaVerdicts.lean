/- The walk of SlotsVerdicts. -/
import Derived.Test.YtimndkjgagdphaaActs
import Derived.IntWalk
namespace Go.Proofs.Ytimndkjgagdphaa
open Go.RowKit Go.Proofs.YtimndkjgagdphaaW.PrintWords Go.Proofs.YtimndkjgagdphaaW.PrintLast
set_option linter.unusedVariables false
set_option linter.unusedSimpArgs false

set_option maxRecDepth 100000 in
theorem verdicts_awake (A : Option Addr) (len c : Nat) (v : Nat → AV) (most : Int) (w : World) (h : ActsIn w A len c v) (G : Calls Try.prog 7 #[.slice A len c] w fun e w' => e = .returned (.bool true) ∧ w = w') :
    Calls Try.prog 3 #[.int .i64 most, .slice A len c] w fun e w' => e = .returned (.bool true) ∧ Below w.heap.size w w' := by
  have HG := Lib.hid G
  clear G h
  go_enter Try.func3, Try.ntmps3
  go_wp2_with fail
  refine (HG.out).mono ?_
  rintro e w' ⟨rfl, rfl⟩
  go_wp2_with fail
  refine (awake_calls _).mono ?_
  rintro e w3 ⟨rfl, hb3⟩
  have HB3 := Lib.hid hb3
  clear hb3
  go_wp2_with fail
  go_ret
  exact ⟨rfl, HB3.out⟩

set_option maxRecDepth 100000 in
set_option maxHeartbeats 8000000 in
theorem verdicts_walk (most : Int) (A : Option Addr) (len c : Nat) (v : Nat → AV) (w : World) (hm : (Lit.int .i64 most).wf = true) (hX : ActsIn w A len c v) :
    Calls Try.prog 3 #[.int .i64 most, .slice A len c] w fun e w' => e = .returned (.bool true) ∧ Below w.heap.size w w' := by
  obtain ⟨m, ⟨m0, m1⟩, LM⟩ := low_calls most 4 (by omega) (by omega)
  have HLM := Lib.hid LM
  have HX := Lib.hid hX
  have hc := hX.le
  have hmx := hX.mx
  have GC := Lib.hid (great_calls A len c v w w hX (Below.refl _ _))
  clear LM hX
  obtain ⟨n, hn⟩ : ∃ n, n = 1 + m := ⟨_, rfl⟩
  have n0 : 1 ≤ n := by omega
  have n1 : n ≤ 4 := by omega
  go_enter Try.func3, Try.ntmps3
  go_wp2_with fail
  refine (GC.out).mono ?_
  rintro e w' ⟨⟨r, rfl, hr⟩, rfl⟩
  cases r with
  | true =>
    go_wp2_with fail
    refine (awake_calls _).mono ?_
    rintro e w3 ⟨rfl, hb3⟩
    have HB3 := Lib.hid hb3
    clear hb3
    go_wp2_with fail
    go_ret
    exact ⟨rfl, HB3.out⟩
  | false =>
  obtain ⟨hl, hq⟩ := hr rfl
  have HQ := Lib.hid hq
  clear hr hq
  go_wp2_with fail
  refine (HLM.out _).mono ?_
  rintro e w1 ⟨rfl, ⟨⟨d1, rfl⟩⟩⟩
  go_wp2_with fail
  rw [← hn]
  clear hn m0 m1
  refine (new_calls n n0 n1 _).mono ?_
  rintro e w1 ⟨h, rfl, hh, hS, hb⟩
  have HHH : Hid (w.heap.size ≤ h) := hh
  have hb' : Below w.heap.size w w1 := below_step0 (pw_below_drewN (Below.refl _ _) d1) hb
  have HGW : Hid (h + 3 ≤ w1.heap.size) := isS_lt hS
  have HGW2 : Hid (w.heap.size ≤ w1.heap.size) := hb'.size
  have HS0 := Lib.hid (isS_below hS (below_al w1 (.cells #[.int .i64 0, .int .i64 0, .int .i64 0, .int .i64 0] 30 (0, 0))))
  have HW0 := Lib.hid (wa_new w1)
  have HB0 := Lib.hid (below_step0 hb' (below_al w1 (.cells #[.int .i64 0, .int .i64 0, .int .i64 0, .int .i64 0] 30 (0, 0))))
  clear hh hS hb hb'
  go_upto_region 8 with fail
  generalize w1.alloc (.cells #[.int .i64 0, .int .i64 0, .int .i64 0, .int .i64 0] 30 (0, 0)) = w2 at *
  generalize w1.heap.size = gw at *
  go_wp2_with fail
  go_loopw [8, 9] (fun vl vi wr => ∃ (s : SS) (i : Int), vl = .int .i64 s.last ∧ vi = .int .i64 i ∧ 0 ≤ i ∧ i ≤ len ∧ s.last ≤ i ∧ Hid (s.most = n) ∧ Hid (IsS wr h s) ∧ Hid (Wa wr gw s.who) ∧ Hid (Below w.heap.size w wr)) (fun _ vi wr => len - (intOf vi).toNat)
  case atStart => exact ⟨SS.init n, 0, rfl, rfl, by omega, by omega, Int.le_refl _, rfl, HS0.out, HW0.out, HB0.out⟩
  case round =>
    obtain ⟨s, i, rfl, rfl, hi0, hi1, hi2, HMO, HS, HW, HB⟩ := hrel
    by_cases hlt : i < len
    · have hltd : decide (i < (len : Int)) = true := decide_eq_true hlt
      have l0 := HS.out.wf.l0
      obtain ⟨ad, rfl, c0, c1, c2, c3, c4⟩ := acts_at HX.out HB.out i.toNat (by omega)
      have HQ1 := Lib.hid (HQ.out i.toNat (by omega))
      generalize v i.toNat = x at *
      go_upto_region 13 with fail
      have HXA := Lib.hid (xat_new wr x)
      have HS1 := Lib.hid (isS_below HS.out (below_al wr (actObj x)))
      have HW1 := Lib.hid (wa_below HW.out (below_al wr (actObj x)))
      have HB1 := Lib.hid (below_step0 HB.out (below_al wr (actObj x)))
      have HG1 : Hid (gw < wr.heap.size) := wa_lt HW.out
      have HG2 : Hid (h + 3 ≤ wr.heap.size) := isS_lt HS.out
      clear c0 c1 c2 c3 c4 HS HW HB
      obtain ⟨wx, hwx⟩ : ∃ wx, wx = wr.alloc (actObj x) := ⟨_, rfl⟩
      rw [← hwx] at HXA HS1 HW1 HB1
      rw [← hwx]
      clear hwx
      generalize wr.heap.size = gx at *
      go_wp2_with fail
      go_loop [11, 12] (fun vn vk => ∃ k : Int, vn = .int .i64 (pc s.who k.toNat) ∧ vk = .int .i64 k ∧ 0 ≤ k ∧ k ≤ 4) (fun _ vk => 4 - (intOf vk).toNat)
      case atStart => exact ⟨0, rfl, rfl, by omega, by omega⟩
      case round =>
      obtain ⟨k, rfl, rfl, hk0, hk1⟩ := hrel
      by_cases hk4 : k < 4
      · have hk4b : decide (k < 4) = true := decide_eq_true hk4
        have hck := wa_cell HW1.out k hk0 hk4
        have hnn := who_nonneg HS1.out.wf k
        have hpl := pc_le s.who k.toNat
        have hps : pc s.who (k + 1).toNat = pc s.who k.toNat + b1 (s.who k) := by
          rw [show (k + 1).toNat = k.toNat + 1 from by omega]
          show _ + b1 (s.who (k.toNat : Int)) = _
          rw [show (k.toNat : Int) = k from by omega]
        by_cases hz : s.who k = 0
        · rw [b1_zero hz] at hps
          have HPS := Lib.hid hps
          rw [hz] at hck
          clear hz hnn hps
          go_wp2_with fail
          go_round
          case rel => exact ⟨k + 1, by rw [HPS.out]; rfl, rfl, by omega, by omega⟩
          case measure => simp [intOf]; omega
        · rw [b1_one hz] at hps
          have HPS := Lib.hid hps
          have hgt : decide (0 < s.who k) = true := decide_eq_true (by omega)
          clear hz hnn hps
          go_wp2_with fail
          go_round
          case rel => exact ⟨k + 1, by rw [HPS.out]; simp, rfl, by omega, by omega⟩
          case measure => simp [intOf]; omega
      have hk4b : decide (k < 4) = false := decide_eq_false hk4
      obtain rfl : k = 4 := by omega
      rw [show ((4 : Int).toNat) = 4 from rfl, pc_cnt]
      clear hk0 hk1 hk4 hk4b
      obtain ⟨x0, x1, x2, x3, x4⟩ := xat_cells HXA.out
      cases hxb : x.b with
      | true =>
        rw [hxb] at x0
        obtain ⟨y, ⟨y0, y1⟩, LY⟩ := low_calls x.id 4 (by omega) (by omega)
        have HLY := Lib.hid LY
        clear LY
        cases hbb : decide (0 < s.who y)
        all_goals
          have FS := Lib.hid (fun W hS => free_slot h s y W hS)
          rw [hbb] at FS
          have FN := Lib.hid (fun W hS => free_absent h (s.free (s.who y)) (s.last + 1) (find_new (wfs_free HS1.out.wf (s.who y))) W hS)
          have FZ := Lib.hid (fun W hS => free_absent h (s.free (s.who y)) 0 rfl W hS)
          have HFW := Lib.hid (free_who HS1.out.wf y)
          have hwy := wa_cell HW1.out y y0 y1
          have hwr : IntKind.i64.wrap (s.last + 1) = s.last + 1 := IntWalk.i64_in _ (by omega)
          go_wp2_with fail
          refine (HLY.out _).mono ?_
          rintro e w3 ⟨rfl, ⟨⟨d2, rfl⟩⟩⟩
          go_wp2_with fail
          go_region_held3 (fun w' => w'.cell? ⟨gw, y.toNat, none⟩ = some (.int .i64 (s.who y))) (first | exact hwy | exact hwz | exact hwu | exact hwv)
            (first
            | (go_at_call 11; refine (FZ.out _ HS5.out).mono ?_; rintro e w6 ⟨rfl, hS, hC⟩; have HS6 := Lib.hid hS; have HC6 := Lib.hid hC; have HW6 := Lib.hid (wa_chg HW5.out hC (.inr HGW.out)); have hwv := wa_cell HW6.out y y0 y1; clear hS hC)
            | (go_at_call 11; refine (FN.out _ HS4.out).mono ?_; rintro e w5 ⟨rfl, hS, hC⟩; have HS5 := Lib.hid hS; have HC5 := Lib.hid hC; have HW5 := Lib.hid (wa_chg HW4.out hC (.inr HGW.out)); have hwu := wa_cell HW5.out y y0 y1; clear hS hC)
            | (go_at_call 11; refine (FS.out _ (isS_drew (isS_drewN HS1.out _))).mono ?_; rintro e w4 ⟨rfl, hS, hC⟩; have HS4 := Lib.hid hS; have HC4 := Lib.hid hC; have HW4 := Lib.hid (wa_chg (show Wa (wx.drewN d2).drew gw s.who from HW1.out) hC (.inr HGW.out)); have hwz := wa_cell HW4.out y y0 y1; clear hS hC))
          clear hwr
          have HB6 := Lib.hid (below_chg (show Below w.heap.size w (wx.drewN d2).drew from pw_below_drewN (pw_below_drewN HB1.out d2) 1) ((HC4.out.trans HC5.out).trans HC6.out) HHH.out)
          have hfr := wa_free HW6.out y.toNat
          go_wp2_with fail
          go_roundw
          case rel => exact ⟨s.free (s.who y), i + 1, rfl, rfl, by omega, by omega, by show s.last ≤ i + 1; omega, HMO.out, isS_set HS6.out _ _ (.inr HGW.out), (by rw [HFW.out]; exact wa_set HW6.out y 0 y0 y1), below_set HB6.out _ _ HGW2.out⟩
          case measure => simp [intOf]; omega
      | false =>
        rw [hxb] at x0
        cases hmay : mayB x.q x.k x.n with
        | false =>
          have SC := Lib.hid (fun W hS => submit_calls h s x.q x.k x.n W (by have := HQ1.out; omega) (by omega) hS)
          have MC := Lib.hid (fun W => may_calls x.q x.k x.n W (by have := HQ1.out; omega))
          rw [hmay, show s.submit false = (s, 1, 0, 0) from rfl] at SC
          rw [hmay] at MC
          go_wp2_with fail
          refine (SC.out _ HS1.out).mono ?_
          rintro e w4 ⟨rfl, hS, hC⟩
          have HS4 := Lib.hid hS
          have HW4 := Lib.hid (wa_chg HW1.out hC (.inr HGW.out))
          have HX4 := Lib.hid (xat_chg HXA.out hC (.inr HG2.out))
          have HB4 := Lib.hid (below_chg HB1.out hC HHH.out)
          clear hS hC x0 x1 x2 x3 x4
          obtain ⟨x0, x1, x2, x3, x4⟩ := xat_cells HX4.out
          go_wp2_with fail
          refine (MC.out _).mono ?_
          rintro e w5 ⟨rfl, hb5⟩
          have HS5 := Lib.hid (isS_below HS4.out hb5)
          have HW5 := Lib.hid (wa_below HW4.out hb5)
          have HB5 := Lib.hid (below_step0 HB4.out hb5)
          clear hb5
          go_wp2_with fail
          go_roundw
          case rel => exact ⟨s, i + 1, rfl, rfl, by omega, by omega, by omega, HMO.out, HS5.out, HW5.out, HB5.out⟩
          case measure => simp [intOf]; omega
        | true =>
        have hmo := HMO.out
        by_cases hcm : (s.cnt : Int) = s.most
        · have hsub : s.submit true = (s, 2, 0, 0) := by unfold SS.submit; rw [if_neg (by simp), if_pos hcm]
          have SC := Lib.hid (fun W hS => submit_calls h s x.q x.k x.n W (by have := HQ1.out; omega) (by omega) hS)
          have MC := Lib.hid (fun W => may_calls x.q x.k x.n W (by have := HQ1.out; omega))
          rw [hmay, hsub] at SC
          rw [hmay] at MC
          have hcb : ((s.cnt : Int) == n) = true := by rw [hcm, hmo]; simp
          clear hcm hsub hmo
          go_wp2_with fail
          refine (SC.out _ HS1.out).mono ?_
          rintro e w4 ⟨rfl, hS, hC⟩
          have HS4 := Lib.hid hS
          have HW4 := Lib.hid (wa_chg HW1.out hC (.inr HGW.out))
          have HX4 := Lib.hid (xat_chg HXA.out hC (.inr HG2.out))
          have HB4 := Lib.hid (below_chg HB1.out hC HHH.out)
          clear hS hC x0 x1 x2 x3 x4
          obtain ⟨x0, x1, x2, x3, x4⟩ := xat_cells HX4.out
          go_wp2_with fail
          refine (MC.out _).mono ?_
          rintro e w5 ⟨rfl, hb5⟩
          have HS5 := Lib.hid (isS_below HS4.out hb5)
          have HW5 := Lib.hid (wa_below HW4.out hb5)
          have HB5 := Lib.hid (below_step0 HB4.out hb5)
          clear hb5
          go_wp2_with fail
          go_roundw
          case rel => exact ⟨s, i + 1, rfl, rfl, by omega, by omega, by omega, HMO.out, HS5.out, HW5.out, HB5.out⟩
          case measure => simp [intOf]; omega
        · have hsub : s.submit true = (s.put, 3, s.last + 1, s.least) := by unfold SS.submit; rw [if_neg (by simp), if_neg hcm]
          have SC := Lib.hid (fun W hS => submit_calls h s x.q x.k x.n W (by have := HQ1.out; omega) (by omega) hS)
          have MC := Lib.hid (fun W => may_calls x.q x.k x.n W (by have := HQ1.out; omega))
          rw [hmay, hsub] at SC
          rw [hmay] at MC
          have hcb : ((s.cnt : Int) == n) = false := by rw [beq_eq_false_iff_ne, ← hmo]; exact hcm
          obtain ⟨q0, q1, q2, q3⟩ := least_ok HS1.out.wf hcm
          rw [hmo] at q2
          have q4 : s.least < 4 := by omega
          have HQ0 := Lib.hid q0
          clear hcm hsub hmo q0 q3
          go_wp2_with fail
          refine (SC.out _ HS1.out).mono ?_
          rintro e w4 ⟨rfl, hS, hC⟩
          have HS4 := Lib.hid hS
          have HW4 := Lib.hid (wa_chg HW1.out hC (.inr HGW.out))
          have HX4 := Lib.hid (xat_chg HXA.out hC (.inr HG2.out))
          have HB4 := Lib.hid (below_chg HB1.out hC HHH.out)
          clear hS hC x0 x1 x2 x3 x4
          obtain ⟨x0, x1, x2, x3, x4⟩ := xat_cells HX4.out
          go_wp2_with fail
          refine (MC.out _).mono ?_
          rintro e w5 ⟨rfl, hb5⟩
          have HS5 := Lib.hid (isS_below HS4.out hb5)
          have HW5 := Lib.hid (wa_below HW4.out hb5)
          have HB5 := Lib.hid (below_step0 HB4.out hb5)
          clear hb5
          have hcl := wa_cell HW5.out s.least q1 q4
          rw [HQ0.out] at hcl
          have hfl := wa_free HW5.out s.least.toNat
          go_wp2_with fail
          go_roundw
          case rel => exact ⟨s.put, i + 1, rfl, rfl, by omega, by omega, by show s.last + 1 ≤ i + 1; omega, HMO.out, isS_set HS5.out _ _ (.inr HGW.out), wa_set HW5.out s.least (s.last + 1) q1 q4, below_set HB5.out _ _ HGW2.out⟩
          case measure => simp [intOf]; omega
    · have hltd : decide (i < (len : Int)) = false := decide_eq_false hlt
      go_wp2_with fail
      refine (last_calls h s _ HS.out).mono ?_
      rintro e w6 ⟨rfl, rfl⟩
      go_wp2_with fail
      refine (awake_calls _).mono ?_
      rintro e w3 ⟨rfl, hb3⟩
      have HB3 := Lib.hid hb3
      clear hb3
      go_wp2_with fail
      go_ret
      exact ⟨by simp, below_step0 HB.out HB3.out⟩
end Go.Proofs.Ytimndkjgagdphaa
