/- The walk of LeaseScript. -/
import Derived.Test.YtjebpccoddcnjaaRef2
import Derived.BigQuiet
import Derived.Deep.QuietTactic
import Derived.Deep.RegionWith
import Derived.Deep.DeepCutAuto
import Derived.Deep.RegionHeld3
namespace Go.Proofs.Ytjebpccoddcnjaa
open Go.RowKit Go.Proofs.YtjebpccoddcnjaaW.PrintWords Go.Proofs.YtjebpccoddcnjaaW.PrintLast
set_option linter.unusedVariables false
set_option linter.unusedSimpArgs false

theorem isA_drew {w : World} {g : Nat} {s : LS} (h : IsA w g s) : IsA w.drew g s := h
theorem isB_drew {w : World} {g : Nat} {s : LS} (h : IsB w g s) : IsB w.drew g s := h
theorem isB_drewN {w : World} {g : Nat} {s : LS} (h : IsB w g s) (n : Nat) : IsB (w.drewN n) g s := h
theorem xat_drew {w : World} {g : Nat} {b : Bool} {u v t : Int} (h : XAt w g b u v t) : XAt w.drew g b u v t := h

set_option maxRecDepth 100000 in
theorem script_awake (A : Option Addr) (len c : Nat) (n term look : Int) (hlt : (100 : Int) < len) (hb : len ≤ 9223372036854775807) (w : World) :
    Calls Try.prog 5 #[.int .i64 n, .int .i64 term, .slice A len c, .int .i64 look] w fun e w' => e = .returned (.bool true) ∧ Below w.heap.size w w' := by
  have hltb : decide ((100 : Int) < len) = true := decide_eq_true hlt
  go_enter Try.func5, Try.ntmps5
  go_wp2_with (go_at_call 9; refine (awake_calls _).mono ?_; rintro e w' ⟨rfl, hb1⟩; have HB := Lib.hid hb1; clear hb1)
  go_ret
  exact ⟨rfl, HB.out⟩
set_option maxRecDepth 100000 in
theorem script_bad (A : Option Addr) (len c : Nat) (n term look : Int) (hlt : len ≤ 100) (h : okNew n term = false) (w : World) :
    Calls Try.prog 5 #[.int .i64 n, .int .i64 term, .slice A len c, .int .i64 look] w fun e w' => e = .returned (.bool true) ∧ Below w.heap.size w w' := by
  have hltb : decide ((100 : Int) < len) = false := decide_eq_false (by omega)
  go_enter Try.func5, Try.ntmps5
  go_wp2_with fail
  refine (new_bad n term h _).mono ?_
  rintro e w1 ⟨rfl, rfl⟩
  go_wp2_with fail
  refine (rnew_bad n term h _).mono ?_
  rintro e w1 ⟨rfl, rfl⟩
  go_wp2_with fail
  refine (num_calls _ _).mono ?_
  rintro e w1 ⟨rfl, rfl⟩
  go_wp2_with fail
  refine (awake_calls _).mono ?_
  rintro e w' ⟨rfl, hb1⟩
  have HB := Lib.hid hb1
  clear hb1
  go_wp2_with fail
  go_ret
  exact ⟨rfl, HB.out⟩

/-- The world behind both calls of an Act. -/
structure Two (w wr : World) (g ga gb : Nat) (b : Bool) (u v t : Int) (s : LS) : Prop where
  x : XAt wr g b u v t
  a : IsA wr ga s
  b : IsB wr gb s
  bl : Below w.heap.size w wr

set_option maxRecDepth 100000 in
set_option maxHeartbeats 8000000 in
theorem script_go (A : Option Addr) (len c : Nat) (b : Nat → Bool) (u v t : Nat → Int) (N term look : Int) (hl : len ≤ 100) (hok : okNew N term = true) (w : World) (h : ActsIn w A len c b u v t) :
    Calls Try.prog 5 #[.int .i64 N, .int .i64 term, .slice A len c, .int .i64 look] w fun e w' => e = .returned (.bool true) ∧ Below w.heap.size w w' := by
  have hltb : decide ((100 : Int) < len) = false := decide_eq_false (by omega)
  have HX := Lib.hid h
  have HOK := Lib.hid hok
  have HWF : Hid (WF (LS.init N term)) := by
    obtain ⟨⟨⟨h0, h1⟩, h2⟩, h3⟩ : ((1 ≤ N ∧ N ≤ 5) ∧ 1 ≤ term) ∧ term ≤ 1000 := by simpa [okNew] using hok
    exact wf_init N term h0 h1 h2 h3
  have hc := h.le
  clear h hok
  go_enter Try.func5, Try.ntmps5
  go_wp2_with fail
  refine (new_calls2 N term HOK.out _).mono ?_
  rintro e w1 ⟨ga, rfl, hga, hA, hb⟩
  have HA := Lib.hid hA
  have HB := Lib.hid hb
  have hga1 := blk_lt hA
  clear hA hb
  go_wp2_with fail
  refine (rnew_calls N term HOK.out _).mono ?_
  rintro e w2 ⟨gb, rfl, hgb, hA, hb⟩
  have HBt := Lib.hid hA
  have HA2 := Lib.hid (isA_below HA.out hb)
  have HB2 := Lib.hid (below_step HB.out hb)
  clear hA hb
  have HNE : Hid (ga ≠ gb) := Nat.ne_of_lt (Nat.lt_of_lt_of_le hga1 hgb)
  have HNE2 : Hid (w.heap.size ≤ gb) := Nat.le_trans hga (Nat.le_of_lt (Nat.lt_of_lt_of_le hga1 hgb))
  have HGA := Lib.hid hga
  clear hga hgb hga1
  go_wp2_with fail
  refine (num_calls _ _).mono ?_
  rintro e w1 ⟨rfl, rfl⟩
  go_wp2_with fail
  go_loopw [13] (fun vi wr => ∃ (s : LS) (i : Int), vi = .int .i64 i ∧ 0 ≤ i ∧ i ≤ len ∧ Hid (WF s) ∧ Hid (IsA wr ga s) ∧ Hid (IsB wr gb s) ∧ Hid (Below w.heap.size w wr)) (fun vi wr => len - (intOf vi).toNat)
  case atStart => exact ⟨_, 0, rfl, by omega, by omega, HWF.out, HA2.out, HBt.out, HB2.out⟩
  case round =>
    obtain ⟨s, i, rfl, hi0, hi1, HJ, HS, HT, HW⟩ := hrel
    by_cases hlt : i < len
    · have hltd : decide (i < (len : Int)) = true := decide_eq_true hlt
      obtain ⟨ad, rfl, c0, c1, c2, c3⟩ := acts_at HX.out HW.out i.toNat (by omega)
      generalize b i.toNat = z at c0
      generalize u i.toNat = k at c1
      generalize v i.toNat = n at c2
      generalize t i.toNat = m at c3
      have hlt1 : Hid (wr.heap.size ≠ ga) := Ne.symm (Nat.ne_of_lt (blk_lt HS.out))
      have hlt2 : Hid (wr.heap.size ≠ gb) := Ne.symm (Nat.ne_of_lt (blk_lt HT.out))
      cases z with
      | true =>
        go_upto_region 15 with fail
        have HX0 := Lib.hid (xat_new wr true k n m)
        have HS0 := Lib.hid (isA_alloc HS.out (.cells #[.bool true, .int .i64 k, .int .i64 n, .int .i64 m] 43 (0, 0)))
        have HT0 := Lib.hid (isB_below HT.out (Joins.below_alloc1 wr (.cells #[.bool true, .int .i64 k, .int .i64 n, .int .i64 m] 43 (0, 0))))
        have HW0 := Lib.hid (below_alloc0 HW.out (.cells #[.bool true, .int .i64 k, .int .i64 n, .int .i64 m] 43 (0, 0)))
        clear c0 c1 c2 c3 HS HT HW
        generalize wr.alloc (.cells #[.bool true, .int .i64 k, .int .i64 n, .int .i64 m] 43 (0, 0)) = wx at *
        generalize wr.heap.size = gx at *
        obtain ⟨d0, d1, d2, d3⟩ := xat_cells (xat_drew HX0.out)
        go_region_held3 (fun w' => w'.cell? ⟨gx, 0, none⟩ = some (.bool true) ∧ w'.cell? ⟨gx, 1, none⟩ = some (.int .i64 k) ∧ w'.cell? ⟨gx, 2, none⟩ = some (.int .i64 n) ∧ w'.cell? ⟨gx, 3, none⟩ = some (.int .i64 m)) (first | exact ⟨d0, d1, d2, d3⟩ | exact ⟨e0, e1, e2, e3⟩ | exact ⟨f0, f1, f2, f3⟩ | exact ⟨g0, g1, g2, g3⟩)
          (first
          | (go_at_call 16; refine (seen_calls ga s HJ.out k n m _ (isA_drew HS0.out)).mono ?_; rintro e w3 ⟨rfl, hA, hG⟩; obtain ⟨e0, e1, e2, e3⟩ := xat_cells (xat_grown (xat_drew HX0.out) hG hlt1.out); have HSa := Lib.hid hA; have HGa := Lib.hid hG; clear hA hG)
          | (go_at_call 19; refine (rseen_calls gb s HJ.out k n m _ (isB_grown (isB_drew HT0.out) HGa.out (Ne.symm HNE.out))).mono ?_; rintro e w4 ⟨rfl, hA, hG⟩; obtain ⟨f0, f1, f2, f3⟩ := xat_cells (xat_grown (xat_grown (xat_drew HX0.out) HGa.out hlt1.out) hG hlt2.out); have HSb := Lib.hid hA; have HGb := Lib.hid hG; clear hA hG))
        have HX1 := Lib.hid (xat_grown (xat_grown (xat_drew HX0.out) HGa.out hlt1.out) HGb.out hlt2.out)
        have HP := Lib.hid (isA_grown HSa.out HGb.out HNE.out)
        have HQ := Lib.hid HSb.out
        have HW1 := Lib.hid (below_grown (below_grown (show Below w.heap.size w wx.drew from pw_below_drewN HW0.out 1) HGa.out HGA.out) HGb.out HNE2.out)
        have HJ1 := Lib.hid (wf_seen HJ.out k n m)
        clear HX0 HS0 HT0 HW0 HSa HSb HGa HGb d0 d1 d2 d3 e0 e1 e2 e3 f0 f1 f2 f3
        generalize (s.seen k n m).1 = s1 at *
        have HE := Lib.hid (fun W h => epoch_calls ga s1 HJ1.out k W h)
        have HL := Lib.hid (fun W h => life_calls ga s1 HJ1.out k W h)
        have HV := Lib.hid (fun nw W h => live_calls ga s1 HJ1.out k nw W h)
        have HR := Lib.hid (fun nw W h => rlive_calls gb s1 HJ1.out k nw W h)
        obtain ⟨d0, d1, d2, d3⟩ := xat_cells HX1.out
        have hc18 := blk_cell HQ.out 18 (by omega)
        have e18 : s1.encB 18 = s1.n := rfl
        rw [e18] at hc18
        clear e18
        unfold LS.epochOf at HE
        unfold LS.lifeOf at HL
        cases hk1 : decide (1 ≤ k) with
        | false =>
          have hw : s1.isW k = false := by unfold LS.isW; rw [hk1]; rfl
          rw [hw] at HE HL
          simp only [Bool.false_eq_true, if_false] at HE HL
          go_wp2_with fail
          go_quiet (fail)
          go_wp2_with fail
          go_quiet ((first
            | (go_at_call 13; refine (HE.out _ (isA_drewN HP.out _)).mono ?_; rintro e w' ⟨rfl, rfl⟩; exact ⟨rfl, _, rfl⟩)
            | (go_at_call 14; refine (HL.out _ (isA_drewN HP.out _)).mono ?_; rintro e w' ⟨rfl, rfl⟩; exact ⟨rfl, _, rfl⟩)
            | (go_at_call 15; refine (HV.out _ _ (isA_drewN HP.out _)).mono ?_; rintro e w' ⟨rfl, rfl⟩; exact ⟨rfl, _, rfl⟩)
            | (go_at_call 21; refine (HR.out _ _ (isB_drewN HQ.out _)).mono ?_; rintro e w' ⟨rfl, rfl⟩; exact ⟨rfl, _, rfl⟩)))
          go_wp2_with fail
          go_roundw
          case rel => exact ⟨s1, i + 1, rfl, by omega, by omega, HJ1.out, isA_drewN HP.out _, isB_drewN HQ.out _, pw_below_drewN HW1.out _⟩
          case measure => simp [intOf]; omega
        | true =>
        cases hk2 : decide (k ≤ s1.n) with
        | false =>
          have hw : s1.isW k = false := by unfold LS.isW; rw [hk1, hk2]; rfl
          rw [hw] at HE HL
          simp only [Bool.false_eq_true, if_false] at HE HL
          go_wp2_with fail
          go_quiet (fail)
          go_wp2_with fail
          go_quiet ((first
            | (go_at_call 13; refine (HE.out _ (isA_drewN HP.out _)).mono ?_; rintro e w' ⟨rfl, rfl⟩; exact ⟨rfl, _, rfl⟩)
            | (go_at_call 14; refine (HL.out _ (isA_drewN HP.out _)).mono ?_; rintro e w' ⟨rfl, rfl⟩; exact ⟨rfl, _, rfl⟩)
            | (go_at_call 15; refine (HV.out _ _ (isA_drewN HP.out _)).mono ?_; rintro e w' ⟨rfl, rfl⟩; exact ⟨rfl, _, rfl⟩)
            | (go_at_call 21; refine (HR.out _ _ (isB_drewN HQ.out _)).mono ?_; rintro e w' ⟨rfl, rfl⟩; exact ⟨rfl, _, rfl⟩)))
          go_wp2_with fail
          go_roundw
          case rel => exact ⟨s1, i + 1, rfl, by omega, by omega, HJ1.out, isA_drewN HP.out _, isB_drewN HQ.out _, pw_below_drewN HW1.out _⟩
          case measure => simp [intOf]; omega
        | true =>
          have hw : s1.isW k = true := by unfold LS.isW; rw [hk1, hk2]; rfl
          obtain ⟨b0, b1⟩ := isW_bd HJ1.out hw
          have hce := blk_cell HQ.out (k.toNat * 3) (by omega)
          have hcl := blk_cell HQ.out (k.toNat * 3 + 1) (by omega)
          rw [encB_epoch s1 k.toNat (by omega)] at hce
          rw [encB_life s1 k.toNat (by omega)] at hcl
          rw [hw] at HE HL
          simp only [if_true] at HE HL
          have p0 : 0 ≤ k := by omega
          have p1 : k < 6 := by omega
          go_wp2_with fail
          go_quiet (fail)
          go_wp2_with fail
          go_quiet (fail)
          go_wp2_with fail
          go_quiet ((first
            | (go_at_call 13; refine (HE.out _ (isA_drewN HP.out _)).mono ?_; rintro e w' ⟨rfl, rfl⟩; exact ⟨rfl, _, rfl⟩)
            | (go_at_call 14; refine (HL.out _ (isA_drewN HP.out _)).mono ?_; rintro e w' ⟨rfl, rfl⟩; exact ⟨rfl, _, rfl⟩)
            | (go_at_call 15; refine (HV.out _ _ (isA_drewN HP.out _)).mono ?_; rintro e w' ⟨rfl, rfl⟩; exact ⟨rfl, _, rfl⟩)
            | (go_at_call 21; refine (HR.out _ _ (isB_drewN HQ.out _)).mono ?_; rintro e w' ⟨rfl, rfl⟩; exact ⟨rfl, _, rfl⟩)))
          go_wp2_with fail
          go_roundw
          case rel => exact ⟨s1, i + 1, rfl, by omega, by omega, HJ1.out, isA_drewN HP.out _, isB_drewN HQ.out _, pw_below_drewN HW1.out _⟩
          case measure => simp [intOf]; omega
      | false =>
        go_upto_region 16 with fail
        have HX0 := Lib.hid (xat_new wr false k n m)
        have HS0 := Lib.hid (isA_alloc HS.out (.cells #[.bool false, .int .i64 k, .int .i64 n, .int .i64 m] 43 (0, 0)))
        have HT0 := Lib.hid (isB_below HT.out (Joins.below_alloc1 wr (.cells #[.bool false, .int .i64 k, .int .i64 n, .int .i64 m] 43 (0, 0))))
        have HW0 := Lib.hid (below_alloc0 HW.out (.cells #[.bool false, .int .i64 k, .int .i64 n, .int .i64 m] 43 (0, 0)))
        clear c0 c1 c2 c3 HS HT HW
        generalize wr.alloc (.cells #[.bool false, .int .i64 k, .int .i64 n, .int .i64 m] 43 (0, 0)) = wx at *
        generalize wr.heap.size = gx at *
        obtain ⟨d0, d1, d2, d3⟩ := xat_cells HX0.out
        go_wp2_with fail
        refine (hello_calls ga s HJ.out k n m _ HS0.out).mono ?_
        rintro e w3 ⟨rfl, hA, hG⟩
        have HX2 := Lib.hid (xat_grown HX0.out hG hlt1.out)
        have HSa := Lib.hid hA
        have HGa := Lib.hid hG
        clear d0 d1 d2 d3 hA hG
        obtain ⟨d0, d1, d2, d3⟩ := xat_cells HX2.out
        go_wp2_with fail
        refine (rhello_calls gb s HJ.out k n m _ (isB_grown HT0.out HGa.out (Ne.symm HNE.out))).mono ?_
        rintro e w4 ⟨rfl, hA, hG⟩
        have HX1 := Lib.hid (xat_grown HX2.out hG hlt2.out)
        have HSb := Lib.hid hA
        have HGb := Lib.hid hG
        clear d0 d1 d2 d3 hA hG
        generalize (s.hello k n m).2.1 = r1 at *
        generalize (s.hello k n m).2.2 = r2 at *
        obtain ⟨d0, d1, d2, d3⟩ := xat_cells HX1.out
        go_wp2_with fail
        refine (num_calls _ _).mono ?_
        rintro e w' ⟨rfl, rfl⟩
        have HP := Lib.hid (isA_grown HSa.out HGb.out HNE.out)
        have HQ := Lib.hid HSb.out
        have HW1 := Lib.hid (below_grown (below_grown HW0.out HGa.out HGA.out) HGb.out HNE2.out)
        have HJ1 := Lib.hid (wf_hello HJ.out k n m)
        clear HX0 HS0 HT0 HW0 HSa HSb HGa HGb HX2 d0 d1 d2 d3
        generalize (s.hello k n m).1 = s1 at *
        have HE := Lib.hid (fun W h => epoch_calls ga s1 HJ1.out k W h)
        have HL := Lib.hid (fun W h => life_calls ga s1 HJ1.out k W h)
        have HV := Lib.hid (fun nw W h => live_calls ga s1 HJ1.out k nw W h)
        have HR := Lib.hid (fun nw W h => rlive_calls gb s1 HJ1.out k nw W h)
        obtain ⟨d0, d1, d2, d3⟩ := xat_cells HX1.out
        have hc18 := blk_cell HQ.out 18 (by omega)
        have e18 : s1.encB 18 = s1.n := rfl
        rw [e18] at hc18
        clear e18
        unfold LS.epochOf at HE
        unfold LS.lifeOf at HL
        cases hk1 : decide (1 ≤ k) with
        | false =>
          have hw : s1.isW k = false := by unfold LS.isW; rw [hk1]; rfl
          rw [hw] at HE HL
          simp only [Bool.false_eq_true, if_false] at HE HL
          go_wp2_with fail
          go_quiet (fail)
          go_wp2_with fail
          go_quiet ((first
            | (go_at_call 13; refine (HE.out _ (isA_drewN HP.out _)).mono ?_; rintro e w' ⟨rfl, rfl⟩; exact ⟨rfl, _, rfl⟩)
            | (go_at_call 14; refine (HL.out _ (isA_drewN HP.out _)).mono ?_; rintro e w' ⟨rfl, rfl⟩; exact ⟨rfl, _, rfl⟩)
            | (go_at_call 15; refine (HV.out _ _ (isA_drewN HP.out _)).mono ?_; rintro e w' ⟨rfl, rfl⟩; exact ⟨rfl, _, rfl⟩)
            | (go_at_call 21; refine (HR.out _ _ (isB_drewN HQ.out _)).mono ?_; rintro e w' ⟨rfl, rfl⟩; exact ⟨rfl, _, rfl⟩)))
          go_wp2_with fail
          go_roundw
          case rel => exact ⟨s1, i + 1, rfl, by omega, by omega, HJ1.out, isA_drewN HP.out _, isB_drewN HQ.out _, pw_below_drewN HW1.out _⟩
          case measure => simp [intOf]; omega
        | true =>
        cases hk2 : decide (k ≤ s1.n) with
        | false =>
          have hw : s1.isW k = false := by unfold LS.isW; rw [hk1, hk2]; rfl
          rw [hw] at HE HL
          simp only [Bool.false_eq_true, if_false] at HE HL
          go_wp2_with fail
          go_quiet (fail)
          go_wp2_with fail
          go_quiet ((first
            | (go_at_call 13; refine (HE.out _ (isA_drewN HP.out _)).mono ?_; rintro e w' ⟨rfl, rfl⟩; exact ⟨rfl, _, rfl⟩)
            | (go_at_call 14; refine (HL.out _ (isA_drewN HP.out _)).mono ?_; rintro e w' ⟨rfl, rfl⟩; exact ⟨rfl, _, rfl⟩)
            | (go_at_call 15; refine (HV.out _ _ (isA_drewN HP.out _)).mono ?_; rintro e w' ⟨rfl, rfl⟩; exact ⟨rfl, _, rfl⟩)
            | (go_at_call 21; refine (HR.out _ _ (isB_drewN HQ.out _)).mono ?_; rintro e w' ⟨rfl, rfl⟩; exact ⟨rfl, _, rfl⟩)))
          go_wp2_with fail
          go_roundw
          case rel => exact ⟨s1, i + 1, rfl, by omega, by omega, HJ1.out, isA_drewN HP.out _, isB_drewN HQ.out _, pw_below_drewN HW1.out _⟩
          case measure => simp [intOf]; omega
        | true =>
          have hw : s1.isW k = true := by unfold LS.isW; rw [hk1, hk2]; rfl
          obtain ⟨b0, b1⟩ := isW_bd HJ1.out hw
          have hce := blk_cell HQ.out (k.toNat * 3) (by omega)
          have hcl := blk_cell HQ.out (k.toNat * 3 + 1) (by omega)
          rw [encB_epoch s1 k.toNat (by omega)] at hce
          rw [encB_life s1 k.toNat (by omega)] at hcl
          rw [hw] at HE HL
          simp only [if_true] at HE HL
          have p0 : 0 ≤ k := by omega
          have p1 : k < 6 := by omega
          go_wp2_with fail
          go_quiet (fail)
          go_wp2_with fail
          go_quiet (fail)
          go_wp2_with fail
          go_quiet ((first
            | (go_at_call 13; refine (HE.out _ (isA_drewN HP.out _)).mono ?_; rintro e w' ⟨rfl, rfl⟩; exact ⟨rfl, _, rfl⟩)
            | (go_at_call 14; refine (HL.out _ (isA_drewN HP.out _)).mono ?_; rintro e w' ⟨rfl, rfl⟩; exact ⟨rfl, _, rfl⟩)
            | (go_at_call 15; refine (HV.out _ _ (isA_drewN HP.out _)).mono ?_; rintro e w' ⟨rfl, rfl⟩; exact ⟨rfl, _, rfl⟩)
            | (go_at_call 21; refine (HR.out _ _ (isB_drewN HQ.out _)).mono ?_; rintro e w' ⟨rfl, rfl⟩; exact ⟨rfl, _, rfl⟩)))
          go_wp2_with fail
          go_roundw
          case rel => exact ⟨s1, i + 1, rfl, by omega, by omega, HJ1.out, isA_drewN HP.out _, isB_drewN HQ.out _, pw_below_drewN HW1.out _⟩
          case measure => simp [intOf]; omega
    · have hltd : decide (i < (len : Int)) = false := decide_eq_false hlt
      go_wp2_with fail
      refine (awake_calls _).mono ?_
      rintro e w3 ⟨rfl, hb3⟩
      have HB3 := Lib.hid hb3
      clear hb3
      go_wp2_with fail
      go_ret
      exact ⟨by simp, below_step HW.out HB3.out⟩
theorem script_walk (N term : Int) (A : Option Addr) (len c : Nat) (b : Nat → Bool) (u v t : Nat → Int) (look : Int) (w : World) (hN : (Lit.int .i64 N).wf = true) (ht : (Lit.int .i64 term).wf = true) (h : ActsIn w A len c b u v t) (hn : (Lit.int .i64 look).wf = true) :
    Calls Try.prog 5 #[.int .i64 N, .int .i64 term, .slice A len c, .int .i64 look] w fun e w' => e = .returned (.bool true) ∧ Below w.heap.size w w' := by
  have z1 := h.le
  have z2 := h.mx
  by_cases hlt : (100 : Int) < len
  · exact script_awake A len c N term look hlt (by omega) w
  · cases hok : okNew N term with
    | false => exact script_bad A len c N term look (by omega) hok w
    | true => exact script_go A len c b u v t N term look (by omega) hok w h
end Go.Proofs.Ytjebpccoddcnjaa
