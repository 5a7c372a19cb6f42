/- The walk of LeaseApart. -/
import Derived.Test.YtjebpccoddcnjaaActs
namespace Go.Proofs.Ytjebpccoddcnjaa
open Go.RowKit Go.Proofs.YtjebpccoddcnjaaW.PrintWords Go.Proofs.YtjebpccoddcnjaaW.PrintLast
set_option linter.unusedVariables false
set_option linter.unusedSimpArgs false

structure Ap (a b : LS) : Prop where
  wa : WF a
  wb : WF b
  na : a.n = 3
  nb : b.n = 3
  sm : Same 2 a b
  e1 : b.epoch 1 = 0
  e3 : b.epoch 3 = 0
theorem Ap_init : Ap (LS.init 3 6) (LS.init 3 6) := ⟨wf_init 3 6 (by omega) (by omega) (by omega) (by omega), wf_init 3 6 (by omega) (by omega) (by omega) (by omega), rfl, rfl, Same.refl _ _, rfl, rfl⟩
theorem Ap_two {a b : LS} (h : Ap a b) (z : Bool) (n t : Int) : Ap (a.act z 2 n t) (b.act z 2 n t) := by
  have h1 := act_other (j := 1) b z 2 n t (fun _ => by decide)
  have h3 := act_other (j := 3) b z 2 n t (fun _ => by decide)
  have ha := act_other (j := 1) a z 2 n t (fun _ => by decide)
  exact ⟨act_wf h.wa _ _ _ _, act_wf h.wb _ _ _ _, ha.n.trans h.na, h1.n.trans h.nb, act_same (k := 2) h.sm z n t, h1.ep.trans h.e1, h3.ep.trans h.e3⟩
theorem Ap_other {a b : LS} (h : Ap a b) (z : Bool) (k n t : Int) (hk : k ≠ 2) : Ap (a.act z k n t) b := by
  have h2 := act_other (j := 2) a z k n t (fun _ => by omega)
  exact ⟨act_wf h.wa _ _ _ _, h.wb, h2.n.trans h.na, h.nb, h2.trans h.sm, h.e1, h.e3⟩
theorem Ap_end {a b : LS} (h : Ap a b) (look : Int) : a.epochOf 2 = b.epochOf 2 ∧ a.lifeOf 2 = b.lifeOf 2 ∧ a.live 2 look = b.live 2 look ∧ b.live 1 look = false ∧ b.epochOf 3 = 0 := by
  have e2 : (2 : Int).toNat = 2 := rfl
  have e1 : (1 : Int).toNat = 1 := rfl
  have e3 : (3 : Int).toNat = 3 := rfl
  unfold LS.epochOf LS.lifeOf LS.live LS.isW
  rw [e1, e2, e3, h.na, h.nb, h.sm.lf, h.sm.ep, h.sm.ti, h.e1, h.e3]
  exact ⟨rfl, rfl, rfl, rfl, rfl⟩

theorem apart_awake (A : Option Addr) (len c : Nat) (look : Int) (hlt : (60 : Int) < len) (hb : len ≤ 9223372036854775807) (w : World) :
    Calls Try.prog 8 #[.slice A len c, .int .i64 look] w fun e w' => e = .returned (.bool true) ∧ Below w.heap.size w w' := by
  have hltb : decide ((60 : Int) < len) = true := decide_eq_true hlt
  go_enter Try.func8, Try.ntmps8
  go_wp2_with (go_at_call 9; refine (awake_calls _).mono ?_; rintro e w' ⟨rfl, hb1⟩; have HB := Lib.hid hb1; clear hb1)
  go_ret
  exact ⟨rfl, HB.out⟩

set_option maxRecDepth 100000 in
set_option maxHeartbeats 8000000 in
theorem apart_go (A : Option Addr) (len c : Nat) (b : Nat → Bool) (u v t : Nat → Int) (look : Int) (hl : len ≤ 60) (w : World) (h : ActsIn w A len c b u v t) :
    Calls Try.prog 8 #[.slice A len c, .int .i64 look] w fun e w' => e = .returned (.bool true) ∧ Below w.heap.size w w' := by
  have hltb : decide ((60 : Int) < len) = false := decide_eq_false (by omega)
  have HX := Lib.hid h
  have hc := h.le
  clear h
  go_enter Try.func8, Try.ntmps8
  go_wp2_with fail
  refine (new_calls2 3 6 (by decide) _).mono ?_
  rintro e w1 ⟨ga, rfl, hga, hA, hb⟩
  have HA := Lib.hid hA
  have HB := Lib.hid hb
  have hga1 := blk_lt hA
  clear hA hb
  go_wp2_with fail
  refine (new_calls2 3 6 (by decide) _).mono ?_
  rintro e w2 ⟨gb, rfl, hgb, hA, hb⟩
  have HBt := Lib.hid hA
  have HA2 := Lib.hid (isA_below HA.out hb)
  have HB2 := Lib.hid (below_step HB.out hb)
  clear hA hb
  have HNE : Hid (ga ≠ gb) := Nat.ne_of_lt (Nat.lt_of_lt_of_le hga1 hgb)
  have HNE2 : Hid (w.heap.size ≤ gb) := Nat.le_trans hga (Nat.le_of_lt (Nat.lt_of_lt_of_le hga1 hgb))
  have HGA := Lib.hid hga
  clear hga hgb hga1
  go_wp2_with fail
  go_loopw [9] (fun vi wr => ∃ (sa sb : LS) (i : Int), vi = .int .i64 i ∧ 0 ≤ i ∧ i ≤ len ∧ Hid (Ap sa sb) ∧ Hid (IsA wr ga sa) ∧ Hid (IsA wr gb sb) ∧ Hid (Below w.heap.size w wr)) (fun vi wr => len - (intOf vi).toNat)
  case atStart => exact ⟨_, _, 0, rfl, by omega, by omega, Ap_init, HA2.out, HBt.out, HB2.out⟩
  case round =>
    obtain ⟨sa, sb, i, rfl, hi0, hi1, HJ, HS, HT, HW⟩ := hrel
    by_cases hlt : i < len
    · have hltd : decide (i < (len : Int)) = true := decide_eq_true hlt
      obtain ⟨ad, rfl, c0, c1, c2, c3⟩ := acts_at HX.out HW.out i.toNat (by omega)
      generalize b i.toNat = z at c0
      generalize u i.toNat = k at c1
      generalize v i.toNat = n at c2
      generalize t i.toNat = m at c3
      cases z with
      | true =>
        have hlt1 : Hid (wr.heap.size ≠ ga) := Ne.symm (Nat.ne_of_lt (blk_lt HS.out))
        have hlt2 : Hid (wr.heap.size ≠ gb) := Ne.symm (Nat.ne_of_lt (blk_lt HT.out))
        by_cases hk : k = 2
        · subst hk
          go_wp2_with fail
          refine (seen_calls ga sa HJ.out.wa 2 n m _ (isA_alloc HS.out _)).mono ?_
          rintro e w3 ⟨rfl, hA, hG⟩
          obtain ⟨d0, d1, d2, d3⟩ := xat_cells (xat_grown (xat_new wr true 2 n m) hG hlt1.out)
          have HS1 := Lib.hid hA
          have HT1 := Lib.hid (isA_grown (isA_alloc HT.out _) hG (Ne.symm HNE.out))
          have HB3 := Lib.hid (below_grown (below_alloc0 HW.out _) hG HGA.out)
          clear hA hG
          go_wp2_with fail
          refine (seen_calls gb sb HJ.out.wb 2 n m _ HT1.out).mono ?_
          rintro e w4 ⟨rfl, hA, hG⟩
          have HT2 := Lib.hid hA
          have HS2 := Lib.hid (isA_grown HS1.out hG HNE.out)
          have HB4 := Lib.hid (below_grown HB3.out hG HNE2.out)
          clear hA hG
          go_wp2_with fail
          go_roundw
          case rel => exact ⟨_, _, i + 1, rfl, by omega, by omega, Ap_two HJ.out true n m, HS2.out, HT2.out, HB4.out⟩
          case measure => simp [intOf]; omega
        · have hkb : (k == 2) = false := beq_eq_false_iff_ne.mpr hk
          have HK := Lib.hid hk
          clear hk
          go_wp2_with fail
          refine (seen_calls ga sa HJ.out.wa k n m _ (isA_alloc HS.out _)).mono ?_
          rintro e w3 ⟨rfl, hA, hG⟩
          obtain ⟨d0, d1, d2, d3⟩ := xat_cells (xat_grown (xat_new wr true k n m) hG hlt1.out)
          have HS1 := Lib.hid hA
          have HT1 := Lib.hid (isA_grown (isA_alloc HT.out _) hG (Ne.symm HNE.out))
          have HB3 := Lib.hid (below_grown (below_alloc0 HW.out _) hG HGA.out)
          clear hA hG
          go_wp2_with fail
          go_roundw
          case rel => exact ⟨_, _, i + 1, rfl, by omega, by omega, Ap_other HJ.out true k n m HK.out, HS1.out, HT1.out, HB3.out⟩
          case measure => simp [intOf]; omega
      | false =>
        have hlt1 : Hid (wr.heap.size ≠ ga) := Ne.symm (Nat.ne_of_lt (blk_lt HS.out))
        have hlt2 : Hid (wr.heap.size ≠ gb) := Ne.symm (Nat.ne_of_lt (blk_lt HT.out))
        by_cases hk : k = 2
        · subst hk
          go_wp2_with fail
          refine (hello_calls ga sa HJ.out.wa 2 n m _ (isA_alloc HS.out _)).mono ?_
          rintro e w3 ⟨rfl, hA, hG⟩
          obtain ⟨d0, d1, d2, d3⟩ := xat_cells (xat_grown (xat_new wr false 2 n m) hG hlt1.out)
          have HS1 := Lib.hid hA
          have HT1 := Lib.hid (isA_grown (isA_alloc HT.out _) hG (Ne.symm HNE.out))
          have HB3 := Lib.hid (below_grown (below_alloc0 HW.out _) hG HGA.out)
          clear hA hG
          go_wp2_with fail
          refine (hello_calls gb sb HJ.out.wb 2 n m _ HT1.out).mono ?_
          rintro e w4 ⟨rfl, hA, hG⟩
          have HT2 := Lib.hid hA
          have HS2 := Lib.hid (isA_grown HS1.out hG HNE.out)
          have HB4 := Lib.hid (below_grown HB3.out hG HNE2.out)
          clear hA hG
          go_wp2_with fail
          go_roundw
          case rel => exact ⟨_, _, i + 1, rfl, by omega, by omega, Ap_two HJ.out false n m, HS2.out, HT2.out, HB4.out⟩
          case measure => simp [intOf]; omega
        · have hkb : (k == 2) = false := beq_eq_false_iff_ne.mpr hk
          have HK := Lib.hid hk
          clear hk
          go_wp2_with fail
          refine (hello_calls ga sa HJ.out.wa k n m _ (isA_alloc HS.out _)).mono ?_
          rintro e w3 ⟨rfl, hA, hG⟩
          obtain ⟨d0, d1, d2, d3⟩ := xat_cells (xat_grown (xat_new wr false k n m) hG hlt1.out)
          have HS1 := Lib.hid hA
          have HT1 := Lib.hid (isA_grown (isA_alloc HT.out _) hG (Ne.symm HNE.out))
          have HB3 := Lib.hid (below_grown (below_alloc0 HW.out _) hG HGA.out)
          clear hA hG
          go_wp2_with fail
          go_roundw
          case rel => exact ⟨_, _, i + 1, rfl, by omega, by omega, Ap_other HJ.out false k n m HK.out, HS1.out, HT1.out, HB3.out⟩
          case measure => simp [intOf]; omega
    · have hltd : decide (i < (len : Int)) = false := decide_eq_false hlt
      obtain ⟨e1, e2, e3, e4, e5⟩ := Ap_end HJ.out look
      have EA := epoch_calls ga sa HJ.out.wa 2
      have EB := epoch_calls gb sb HJ.out.wb 2
      have LA := life_calls ga sa HJ.out.wa 2
      have LB := life_calls gb sb HJ.out.wb 2
      have VA := live_calls ga sa HJ.out.wa 2 look
      have VB := live_calls gb sb HJ.out.wb 2 look
      have V1 := live_calls gb sb HJ.out.wb 1 look
      have E3 := epoch_calls gb sb HJ.out.wb 3
      rw [e1] at EA
      rw [e2] at LA
      rw [e3] at VA
      rw [e4] at V1
      rw [e5] at E3
      generalize sb.epochOf 2 = x1 at EA EB
      generalize sb.lifeOf 2 = x2 at LA LB
      generalize sb.live 2 look = x3 at VA VB
      have HEA := Lib.hid EA
      have HEB := Lib.hid EB
      have HLA := Lib.hid LA
      have HLB := Lib.hid LB
      have HVA := Lib.hid VA
      have HVB := Lib.hid VB
      have HV1 := Lib.hid V1
      have HE3 := Lib.hid E3
      clear e1 e2 e3 e4 e5 EA EB LA LB VA VB V1 E3
      go_wp2_with fail
      refine (HEA.out _ HS.out).mono ?_
      rintro e w' ⟨rfl, rfl⟩
      go_wp2_with fail
      refine (HEB.out _ HT.out).mono ?_
      rintro e w' ⟨rfl, rfl⟩
      go_wp2_with fail
      refine (HLA.out _ HS.out).mono ?_
      rintro e w' ⟨rfl, rfl⟩
      go_wp2_with fail
      refine (HLB.out _ HT.out).mono ?_
      rintro e w' ⟨rfl, rfl⟩
      go_wp2_with fail
      refine (HVA.out _ HS.out).mono ?_
      rintro e w' ⟨rfl, rfl⟩
      go_wp2_with fail
      refine (HVB.out _ HT.out).mono ?_
      rintro e w' ⟨rfl, rfl⟩
      go_wp2_with fail
      refine (HV1.out _ HT.out).mono ?_
      rintro e w' ⟨rfl, rfl⟩
      go_wp2_with fail
      refine (HE3.out _ HT.out).mono ?_
      rintro e w' ⟨rfl, rfl⟩
      go_wp2_with fail
      refine (awake_calls _).mono ?_
      rintro e w3 ⟨rfl, hb3⟩
      have HB3 := Lib.hid hb3
      clear hb3
      go_wp2_with fail
      go_ret
      exact ⟨by simp, below_step HW.out HB3.out⟩
theorem apart_walk (A : Option Addr) (len c : Nat) (b : Nat → Bool) (u v t : Nat → Int) (look : Int) (w : World) (h : ActsIn w A len c b u v t) (hn : (Lit.int .i64 look).wf = true) :
    Calls Try.prog 8 #[.slice A len c, .int .i64 look] w fun e w' => e = .returned (.bool true) ∧ Below w.heap.size w w' := by
  have z1 := h.le
  have z2 := h.mx
  by_cases hlt : (60 : Int) < len
  · exact apart_awake A len c look hlt (by omega) w
  · exact apart_go A len c b u v t look (by omega) w h
end Go.Proofs.Ytjebpccoddcnjaa
