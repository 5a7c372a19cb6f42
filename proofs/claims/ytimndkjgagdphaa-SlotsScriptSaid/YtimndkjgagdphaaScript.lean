/- The walk of SlotsScript. -/
import Derived.Test.YtimndkjgagdphaaRef3
import Derived.IntWalk
namespace Go.Proofs.Ytimndkjgagdphaa
open Go.RowKit Go.Proofs.YtimndkjgagdphaaW.PrintWords Go.Proofs.YtimndkjgagdphaaW.PrintLast
set_option linter.unusedVariables false
set_option linter.unusedSimpArgs false

theorem num_calls (n : Int) (w : World) : Calls Try.prog 16 #[.int .i64 n] w fun e w' => e = .returned (.int .i64 n) ∧ w = w' := by
  go_enter Try.func16, Try.ntmps16
  go_wp2_with fail
  go_ret
  exact ⟨rfl, rfl⟩

set_option maxRecDepth 100000 in
set_option maxHeartbeats 16000000 in
theorem script_walk (n : Int) (A : Option Addr) (len c : Nat) (v : Nat → AV) (w : World) (hm : (Lit.int .i64 n).wf = true) (hX : ActsIn w A len c v) :
    Calls Try.prog 5 #[.int .i64 n, .slice A len c] w fun e w' => e = .returned (.bool true) ∧ Below w.heap.size w w' := by
  have GC := Lib.hid (great_calls A len c v w w hX (Below.refl _ _))
  have HX := Lib.hid hX
  have hc := hX.le
  have hmx := hX.mx
  clear hX
  by_cases hn : 1 ≤ n ∧ n ≤ 4
  case neg =>
    have HN := Lib.hid hn
    clear hn
    go_enter Try.func5, Try.ntmps5
    go_wp2_with fail
    refine (GC.out).mono ?_
    rintro e w' ⟨⟨r, rfl, hr⟩, rfl⟩
    clear hr
    cases r with
    | true =>
      go_wp2_with fail
      refine (awake_calls _).mono ?_
      rintro e w3 ⟨rfl, hb3⟩
      have HB3 := Lib.hid hb3
      clear hb3
      go_wp2_with fail
      go_ret
      exact ⟨rfl, HB3.out⟩
    | false =>
      go_wp2_with fail
      refine (new_bad n HN.out _).mono ?_
      rintro e w' ⟨rfl, rfl⟩
      go_wp2_with fail
      refine (rnew_bad n HN.out _).mono ?_
      rintro e w' ⟨rfl, rfl⟩
      go_wp2_with fail
      refine (num_calls _ _).mono ?_
      rintro e w' ⟨rfl, rfl⟩
      go_wp2_with fail
      refine (awake_calls _).mono ?_
      rintro e w3 ⟨rfl, hb3⟩
      have HB3 := Lib.hid hb3
      clear hb3
      go_wp2_with fail
      go_ret
      exact ⟨rfl, HB3.out⟩
  obtain ⟨n0, n1⟩ := hn
  go_enter Try.func5, Try.ntmps5
  go_wp2_with fail
  refine (GC.out).mono ?_
  rintro e w' ⟨⟨r, rfl, hr⟩, rfl⟩
  cases r with
  | true =>
    clear hr
    go_wp2_with fail
    refine (awake_calls _).mono ?_
    rintro e w3 ⟨rfl, hb3⟩
    have HB3 := Lib.hid hb3
    clear hb3
    go_wp2_with fail
    go_ret
    exact ⟨rfl, HB3.out⟩
  | false =>
  obtain ⟨hl, hq⟩ := hr rfl
  have HQ := Lib.hid hq
  clear hr hq
  go_wp2_with fail
  refine (new_calls n n0 n1 _).mono ?_
  rintro e w1 ⟨h, rfl, hh, hS, hb⟩
  have HHH : Hid (w.heap.size ≤ h) := hh
  have HS0 := Lib.hid hS
  have HB0 := Lib.hid hb
  clear hh hS hb
  go_wp2_with fail
  refine (rnew_calls n n0 n1 _).mono ?_
  rintro e w2 ⟨r, rfl, hh, hR, hb⟩
  have HHR : Hid (h + 3 ≤ r) := Nat.le_trans (isS_lt HS0.out) hh
  have HHR2 : Hid (w.heap.size ≤ r) := Nat.le_trans HB0.out.size hh
  have HR0 := Lib.hid hR
  have HS1 := Lib.hid (isS_below HS0.out hb)
  have HB1 := Lib.hid (below_step0 HB0.out hb)
  clear hh hR hb HS0 HB0
  go_wp2_with fail
  refine (num_calls _ _).mono ?_
  rintro e w' ⟨rfl, rfl⟩
  go_wp2_with fail
  go_loopw [9] (fun vi wr => ∃ (s : SS) (i : Int), vi = .int .i64 i ∧ 0 ≤ i ∧ i ≤ len ∧ s.last ≤ i ∧ Hid (IsS wr h s) ∧ Hid (IsR wr r s) ∧ Hid (Below w.heap.size w wr)) (fun vi wr => len - (intOf vi).toNat)
  case atStart => exact ⟨SS.init n, 0, rfl, by omega, by omega, Int.le_refl _, HS1.out, HR0.out, HB1.out⟩
  case round =>
    obtain ⟨s, i, rfl, hi0, hi1, hi2, HS, HR, HB⟩ := hrel
    by_cases hlt : i < len
    · have hltd : decide (i < (len : Int)) = true := decide_eq_true hlt
      have l0 := HS.out.wf.l0
      obtain ⟨ad, rfl, c0, c1, c2, c3, c4⟩ := acts_at HX.out HB.out i.toNat (by omega)
      have HQ1 := Lib.hid (HQ.out i.toNat (by omega))
      generalize v i.toNat = x at *
      go_upto_region 13 with fail
      have HXA := Lib.hid (xat_new wr x)
      have HS1 := Lib.hid (isS_below HS.out (below_al wr (actObj x)))
      have HR1 := Lib.hid (isR_below HR.out (below_al wr (actObj x)))
      have HB1 := Lib.hid (below_step0 HB.out (below_al wr (actObj x)))
      have HG1 : Hid (r + 2 ≤ wr.heap.size) := isR_lt HR.out
      have HG2 : Hid (h + 3 ≤ wr.heap.size) := isS_lt HS.out
      clear c0 c1 c2 c3 c4 HS HR HB
      obtain ⟨wx, hwx⟩ : ∃ wx, wx = wr.alloc (actObj x) := ⟨_, rfl⟩
      rw [← hwx] at HXA HS1 HR1 HB1
      rw [← hwx]
      clear hwx
      generalize wr.heap.size = gx at *
      obtain ⟨x0, x1, x2, x3, x4⟩ := xat_cells HXA.out
      cases hxb : x.b with
      | true =>
        rw [hxb] at x0
        have FS := Lib.hid (fun W hS => free_calls h s x.id W hS)
        have FR := Lib.hid (fun W hR => rfree_calls r s x.id W hR)
        generalize (s.find x.id).isSome = ok at *
        have HLS : Hid ((s.free x.id).last = s.last) := rfl
        generalize s.free x.id = s1 at *
        go_wp2_with fail
        go_region_held3 (fun w' => w'.cell? ⟨gx, 1, none⟩ = some (.int .i64 x.id)) (first | exact x1 | exact hwz | exact hwu)
          (first
          | (go_at_call 11; refine (FS.out _ (isS_drew HS1.out)).mono ?_; rintro e w4 ⟨rfl, hS, hC⟩; have HS4 := Lib.hid hS; have HX4 := Lib.hid (xat_chg (show XAt wx.drew gx x from HXA.out) hC (.inr HG2.out)); have HR4 := Lib.hid (isR_chg (isR_drew HR1.out) hC (.inr HHR.out)); have HB4 := Lib.hid (below_chg (show Below w.heap.size w wx.drew from pw_below_drewN HB1.out 1) hC HHH.out); have hwz := (xat_cells HX4.out).2.1; clear hS hC)
          | (go_at_call 17; refine (FR.out _ HR4.out).mono ?_; rintro e w5 ⟨rfl, hR, hC⟩; have HR5 := Lib.hid hR; have HX5 := Lib.hid (xat_chg HX4.out hC (.inr HG1.out)); have HS5 := Lib.hid (isS_chg HS4.out hC (.inl HHR.out)); have HB5 := Lib.hid (below_chg HB4.out hC HHR2.out); have hwu := (xat_cells HX5.out).2.1; clear hR hC))
        clear HXA HS1 HR1 HB1 HS4 HX4 HR4 HB4 x0 x1 x2 x3 x4 hwz
        have HS1 := HS5
        have HR1 := HR5
        have HB1 := HB5
        clear HS5 HR5 HB5
        have hsl : s1.last ≤ i := by have := HLS.out; omega
        have HE := Lib.hid (fun W hh => of_calls h s1 x.id W hh)
        have HRE := Lib.hid (fun W hh => rof_calls r s1 x.id W hh)
        have HAT := Lib.hid (fun W hh => at_calls h s1 x.id W hh)
        have HCT := Lib.hid (fun W hh => count_calls h s1 W hh)
        have HRC := Lib.hid (fun W hh => rcount_calls r s1 W hh)
        have HLA := Lib.hid (fun W hh => last_calls h s1 W hh)
        generalize s1.find x.id = fd at *
        obtain ⟨m, hm⟩ : ∃ m : Nat, m = s1.most.toNat := ⟨_, rfl⟩
        have HM : Hid ((m : Int) = s1.most) := by have := HR1.out.wf.m0; show (m : Int) = s1.most; omega
        have hnn := who_nonneg HS1.out.wf x.id
        have HWO := Lib.hid (fun hk => who_out HS1.out.wf x.id hk)
        have HROW := Lib.hid (fun hk => HR1.out.row x.id.toNat hk)
        obtain ⟨cR0, cR1, fR1⟩ := isR_cells HR1.out
        rw [← hm] at cR0
        clear hm fR1
        generalize hwh : s1.who x.id = wh at *
        have HWH := Lib.hid hwh
        clear hwh
        generalize hla : s1.last = la at *
        have HLAE := Lib.hid hla
        clear hla
        generalize s1.cnt = ct at *
        go_wp2_with fail
        refine (HE.out _ HS1.out).mono ?_
        rintro e w' ⟨rfl, rfl⟩
        go_wp2_with fail
        refine (HRE.out _ HR1.out).mono ?_
        rintro e w' ⟨rfl, rfl⟩
        go_wp2_with fail
        refine (HAT.out _ HS1.out).mono ?_
        rintro e w' ⟨rfl, rfl⟩
        cases hk1 : decide (0 ≤ x.id) with
        | false =>
          have e0 := HWO.out (.inl (by simpa using hk1))
          subst e0
          go_wp2_with fail
          go_quiet (fail)
          go_wp2_with fail
          go_quiet ((first
            | (go_at_call 22; refine (HCT.out _ (isS_drewN HS1.out _)).mono ?_; rintro e w' ⟨rfl, rfl⟩; exact ⟨rfl, _, rfl⟩)
            | (go_at_call 23; refine (HRC.out _ (isR_drewN HR1.out _)).mono ?_; rintro e w' ⟨rfl, rfl⟩; exact ⟨rfl, _, rfl⟩)
            | (go_at_call 14; refine (HLA.out _ (isS_drewN HS1.out _)).mono ?_; rintro e w' ⟨rfl, rfl⟩; exact ⟨rfl, _, rfl⟩)))
          go_wp2_with fail
          go_roundw
          case rel => exact ⟨s1, i + 1, rfl, by omega, by omega, by have := HLAE.out; omega, isS_drewN HS1.out _, isR_drewN HR1.out _, pw_below_drewN HB1.out _⟩
          case measure => simp [intOf]; omega
        | true =>
        cases hk2 : decide (x.id < (m : Int)) with
        | false =>
          have e0 := HWO.out (.inr (by have := HM.out; simp at hk2; omega))
          subst e0
          go_wp2_with fail
          go_quiet (fail)
          go_wp2_with fail
          go_quiet ((first
            | (go_at_call 22; refine (HCT.out _ (isS_drewN HS1.out _)).mono ?_; rintro e w' ⟨rfl, rfl⟩; exact ⟨rfl, _, rfl⟩)
            | (go_at_call 23; refine (HRC.out _ (isR_drewN HR1.out _)).mono ?_; rintro e w' ⟨rfl, rfl⟩; exact ⟨rfl, _, rfl⟩)
            | (go_at_call 14; refine (HLA.out _ (isS_drewN HS1.out _)).mono ?_; rintro e w' ⟨rfl, rfl⟩; exact ⟨rfl, _, rfl⟩)))
          go_wp2_with fail
          go_roundw
          case rel => exact ⟨s1, i + 1, rfl, by omega, by omega, by have := HLAE.out; omega, isS_drewN HS1.out _, isR_drewN HR1.out _, pw_below_drewN HB1.out _⟩
          case measure => simp [intOf]; omega
        | true =>
          have g0 : 0 ≤ x.id := by simpa using hk1
          have g1 : x.id < (m : Int) := by simpa using hk2
          have hrow := HROW.out (by have := HM.out; omega)
          rw [show ((x.id.toNat : Nat) : Int) = x.id from by omega, HWH.out] at hrow
          cases hwb : decide (wh ≠ 0) with
          | false =>
            obtain rfl : wh = 0 := by simpa using hwb
            go_wp2_with fail
            go_quiet (fail)
            go_wp2_with fail
            go_quiet (fail)
            go_wp2_with fail
            go_quiet ((first
              | (go_at_call 22; refine (HCT.out _ (isS_drewN HS1.out _)).mono ?_; rintro e w' ⟨rfl, rfl⟩; exact ⟨rfl, _, rfl⟩)
              | (go_at_call 23; refine (HRC.out _ (isR_drewN HR1.out _)).mono ?_; rintro e w' ⟨rfl, rfl⟩; exact ⟨rfl, _, rfl⟩)
              | (go_at_call 14; refine (HLA.out _ (isS_drewN HS1.out _)).mono ?_; rintro e w' ⟨rfl, rfl⟩; exact ⟨rfl, _, rfl⟩)))
            go_wp2_with fail
            go_roundw
            case rel => exact ⟨s1, i + 1, rfl, by omega, by omega, by have := HLAE.out; omega, isS_drewN HS1.out _, isR_drewN HR1.out _, pw_below_drewN HB1.out _⟩
            case measure => simp [intOf]; omega
          | true =>
            have hwp : decide (0 < wh) = true := decide_eq_true (by have hw0 : wh ≠ 0 := (by simpa using hwb); omega)
            go_wp2_with fail
            go_quiet (fail)
            go_wp2_with fail
            go_quiet (fail)
            go_wp2_with fail
            go_quiet ((first
              | (go_at_call 22; refine (HCT.out _ (isS_drewN HS1.out _)).mono ?_; rintro e w' ⟨rfl, rfl⟩; exact ⟨rfl, _, rfl⟩)
              | (go_at_call 23; refine (HRC.out _ (isR_drewN HR1.out _)).mono ?_; rintro e w' ⟨rfl, rfl⟩; exact ⟨rfl, _, rfl⟩)
              | (go_at_call 14; refine (HLA.out _ (isS_drewN HS1.out _)).mono ?_; rintro e w' ⟨rfl, rfl⟩; exact ⟨rfl, _, rfl⟩)))
            go_wp2_with fail
            go_roundw
            case rel => exact ⟨s1, i + 1, rfl, by omega, by omega, by have := HLAE.out; omega, isS_drewN HS1.out _, isR_drewN HR1.out _, pw_below_drewN HB1.out _⟩
            case measure => simp [intOf]; omega
      | false =>
        rw [hxb] at x0
        have SC := Lib.hid (fun W hS => submit_calls h s x.q x.k x.n W (by have := HQ1.out; omega) (by omega) hS)
        have SR := Lib.hid (fun W hS => rsubmit_calls r s x.q x.k x.n W (by have := HQ1.out; omega) (by omega) hS)
        have hsl : (s.submit (mayB x.q x.k x.n)).1.last ≤ i + 1 := by
          unfold SS.submit
          by_cases a : mayB x.q x.k x.n = false
          · rw [if_pos a]; show s.last ≤ i + 1; omega
          · rw [if_neg a]
            by_cases b : (s.cnt : Int) = s.most
            · rw [if_pos b]; show s.last ≤ i + 1; omega
            · rw [if_neg b]; show s.last + 1 ≤ i + 1; omega
        generalize (s.submit (mayB x.q x.k x.n)).2.1 = v1 at *
        generalize (s.submit (mayB x.q x.k x.n)).2.2.1 = v2 at *
        generalize (s.submit (mayB x.q x.k x.n)).2.2.2 = v3 at *
        generalize (s.submit (mayB x.q x.k x.n)).1 = s1 at *
        go_wp2_with fail
        refine (SC.out _ HS1.out).mono ?_
        rintro e w4 ⟨rfl, hS, hC⟩
        have HS4 := Lib.hid hS
        have HR4 := Lib.hid (isR_chg HR1.out hC (.inr HHR.out))
        have HX4 := Lib.hid (xat_chg HXA.out hC (.inr HG2.out))
        have HB4 := Lib.hid (below_chg HB1.out hC HHH.out)
        clear hS hC x0 x1 x2 x3 x4
        obtain ⟨x0, x1, x2, x3, x4⟩ := xat_cells HX4.out
        go_wp2_with fail
        refine (SR.out _ HR4.out).mono ?_
        rintro e w5 ⟨rfl, hR, hC⟩
        have HR5 := Lib.hid hR
        have HS5 := Lib.hid (isS_chg HS4.out hC (.inl HHR.out))
        have HX5 := Lib.hid (xat_chg HX4.out hC (.inr HG1.out))
        have HB5 := Lib.hid (below_chg HB4.out hC HHR2.out)
        clear hR hC x0 x1 x2 x3 x4 HXA HS1 HR1 HB1 HS4 HX4 HR4 HB4
        have hwu := (xat_cells HX5.out).2.1
        have HS1 := HS5
        have HR1 := HR5
        have HB1 := HB5
        clear HS5 HR5 HB5
        have HE := Lib.hid (fun W hh => of_calls h s1 x.id W hh)
        have HRE := Lib.hid (fun W hh => rof_calls r s1 x.id W hh)
        have HAT := Lib.hid (fun W hh => at_calls h s1 x.id W hh)
        have HCT := Lib.hid (fun W hh => count_calls h s1 W hh)
        have HRC := Lib.hid (fun W hh => rcount_calls r s1 W hh)
        have HLA := Lib.hid (fun W hh => last_calls h s1 W hh)
        generalize s1.find x.id = fd at *
        obtain ⟨m, hm⟩ : ∃ m : Nat, m = s1.most.toNat := ⟨_, rfl⟩
        have HM : Hid ((m : Int) = s1.most) := by have := HR1.out.wf.m0; show (m : Int) = s1.most; omega
        have hnn := who_nonneg HS1.out.wf x.id
        have HWO := Lib.hid (fun hk => who_out HS1.out.wf x.id hk)
        have HROW := Lib.hid (fun hk => HR1.out.row x.id.toNat hk)
        obtain ⟨cR0, cR1, fR1⟩ := isR_cells HR1.out
        rw [← hm] at cR0
        clear hm fR1
        generalize hwh : s1.who x.id = wh at *
        have HWH := Lib.hid hwh
        clear hwh
        generalize hla : s1.last = la at *
        have HLAE := Lib.hid hla
        clear hla
        generalize s1.cnt = ct at *
        go_wp2_with fail
        refine (HE.out _ HS1.out).mono ?_
        rintro e w' ⟨rfl, rfl⟩
        go_wp2_with fail
        refine (HRE.out _ HR1.out).mono ?_
        rintro e w' ⟨rfl, rfl⟩
        go_wp2_with fail
        refine (HAT.out _ HS1.out).mono ?_
        rintro e w' ⟨rfl, rfl⟩
        cases hk1 : decide (0 ≤ x.id) with
        | false =>
          have e0 := HWO.out (.inl (by simpa using hk1))
          subst e0
          go_wp2_with fail
          go_quiet (fail)
          go_wp2_with fail
          go_quiet ((first
            | (go_at_call 22; refine (HCT.out _ (isS_drewN HS1.out _)).mono ?_; rintro e w' ⟨rfl, rfl⟩; exact ⟨rfl, _, rfl⟩)
            | (go_at_call 23; refine (HRC.out _ (isR_drewN HR1.out _)).mono ?_; rintro e w' ⟨rfl, rfl⟩; exact ⟨rfl, _, rfl⟩)
            | (go_at_call 14; refine (HLA.out _ (isS_drewN HS1.out _)).mono ?_; rintro e w' ⟨rfl, rfl⟩; exact ⟨rfl, _, rfl⟩)))
          go_wp2_with fail
          go_roundw
          case rel => exact ⟨s1, i + 1, rfl, by omega, by omega, by have := HLAE.out; omega, isS_drewN HS1.out _, isR_drewN HR1.out _, pw_below_drewN HB1.out _⟩
          case measure => simp [intOf]; omega
        | true =>
        cases hk2 : decide (x.id < (m : Int)) with
        | false =>
          have e0 := HWO.out (.inr (by have := HM.out; simp at hk2; omega))
          subst e0
          go_wp2_with fail
          go_quiet (fail)
          go_wp2_with fail
          go_quiet ((first
            | (go_at_call 22; refine (HCT.out _ (isS_drewN HS1.out _)).mono ?_; rintro e w' ⟨rfl, rfl⟩; exact ⟨rfl, _, rfl⟩)
            | (go_at_call 23; refine (HRC.out _ (isR_drewN HR1.out _)).mono ?_; rintro e w' ⟨rfl, rfl⟩; exact ⟨rfl, _, rfl⟩)
            | (go_at_call 14; refine (HLA.out _ (isS_drewN HS1.out _)).mono ?_; rintro e w' ⟨rfl, rfl⟩; exact ⟨rfl, _, rfl⟩)))
          go_wp2_with fail
          go_roundw
          case rel => exact ⟨s1, i + 1, rfl, by omega, by omega, by have := HLAE.out; omega, isS_drewN HS1.out _, isR_drewN HR1.out _, pw_below_drewN HB1.out _⟩
          case measure => simp [intOf]; omega
        | true =>
          have g0 : 0 ≤ x.id := by simpa using hk1
          have g1 : x.id < (m : Int) := by simpa using hk2
          have hrow := HROW.out (by have := HM.out; omega)
          rw [show ((x.id.toNat : Nat) : Int) = x.id from by omega, HWH.out] at hrow
          cases hwb : decide (wh ≠ 0) with
          | false =>
            obtain rfl : wh = 0 := by simpa using hwb
            go_wp2_with fail
            go_quiet (fail)
            go_wp2_with fail
            go_quiet (fail)
            go_wp2_with fail
            go_quiet ((first
              | (go_at_call 22; refine (HCT.out _ (isS_drewN HS1.out _)).mono ?_; rintro e w' ⟨rfl, rfl⟩; exact ⟨rfl, _, rfl⟩)
              | (go_at_call 23; refine (HRC.out _ (isR_drewN HR1.out _)).mono ?_; rintro e w' ⟨rfl, rfl⟩; exact ⟨rfl, _, rfl⟩)
              | (go_at_call 14; refine (HLA.out _ (isS_drewN HS1.out _)).mono ?_; rintro e w' ⟨rfl, rfl⟩; exact ⟨rfl, _, rfl⟩)))
            go_wp2_with fail
            go_roundw
            case rel => exact ⟨s1, i + 1, rfl, by omega, by omega, by have := HLAE.out; omega, isS_drewN HS1.out _, isR_drewN HR1.out _, pw_below_drewN HB1.out _⟩
            case measure => simp [intOf]; omega
          | true =>
            have hwp : decide (0 < wh) = true := decide_eq_true (by have hw0 : wh ≠ 0 := (by simpa using hwb); omega)
            go_wp2_with fail
            go_quiet (fail)
            go_wp2_with fail
            go_quiet (fail)
            go_wp2_with fail
            go_quiet ((first
              | (go_at_call 22; refine (HCT.out _ (isS_drewN HS1.out _)).mono ?_; rintro e w' ⟨rfl, rfl⟩; exact ⟨rfl, _, rfl⟩)
              | (go_at_call 23; refine (HRC.out _ (isR_drewN HR1.out _)).mono ?_; rintro e w' ⟨rfl, rfl⟩; exact ⟨rfl, _, rfl⟩)
              | (go_at_call 14; refine (HLA.out _ (isS_drewN HS1.out _)).mono ?_; rintro e w' ⟨rfl, rfl⟩; exact ⟨rfl, _, rfl⟩)))
            go_wp2_with fail
            go_roundw
            case rel => exact ⟨s1, i + 1, rfl, by omega, by omega, by have := HLAE.out; omega, isS_drewN HS1.out _, isR_drewN HR1.out _, pw_below_drewN HB1.out _⟩
            case measure => simp [intOf]; omega
    · have hltd : decide (i < (len : Int)) = false := decide_eq_false hlt
      go_wp2_with fail
      refine (awake_calls _).mono ?_
      rintro e w3 ⟨rfl, hb3⟩
      have HB3 := Lib.hid hb3
      clear hb3
      go_wp2_with fail
      go_ret
      exact ⟨by simp, below_step0 HB.out HB3.out⟩
end Go.Proofs.Ytimndkjgagdphaa

