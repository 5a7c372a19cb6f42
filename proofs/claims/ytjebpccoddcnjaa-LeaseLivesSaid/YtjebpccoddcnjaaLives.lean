/- The walk of LeaseLives. -/
import Derived.Test.YtjebpccoddcnjaaOpen
namespace Go.Proofs.Ytjebpccoddcnjaa
open Go.RowKit Go.Proofs.YtjebpccoddcnjaaW.PrintWords Go.Proofs.YtjebpccoddcnjaaW.PrintLast
set_option linter.unusedVariables false
set_option linter.unusedSimpArgs false

structure K (T : Int) (s : LS) (now : Int) : Prop where
  wf : WF s
  n1 : s.n = 1
  te : s.term = T
  lf : s.life 1 = 1
  ep : s.epoch 1 = 1
  ti : s.till 1 = now + T
  w0 : 0 ≤ now
  w1 : now ≤ 1000000
theorem K_good {T : Int} {s : LS} {now : Int} (h : K T s now) (m : Int) (m0 : 0 ≤ m) (m1 : m ≤ 1000000) : s.badHello 1 1 m = false := by
  unfold LS.badHello LS.isW timeB
  rw [h.n1]
  simp
  omega
theorem K_ext {T : Int} {s : LS} {now : Int} (h : K T s now) (m : Int) (m0 : now ≤ m) (m1 : m ≤ 1000000) : K T (s.ext 1 m) m := by
  have := h.w0
  refine ⟨wf_ext h.wf 1 m (by unfold timeB; simp; omega), h.n1, h.te, h.lf, h.ep, ?_, by omega, m1⟩
  show upd s.till 1 (max (s.till 1) (m + s.term)) 1 = _
  rw [upd_same, h.ti, h.te]
  omega
theorem K_hello {T : Int} {s : LS} {now : Int} (h : K T s now) (m : Int) (m0 : now ≤ m) (m1 : m ≤ 1000000) : ∃ s', s.hello 1 1 m = (s', 1, 0) ∧ K T s' m := by
  have hk := K_ext h m m0 m1
  have w0 := h.w0
  unfold LS.hello
  rw [K_good h m (by omega) m1]
  have e4 : (1 : Int).toNat = 1 := rfl
  rw [e4, h.lf, h.ep]
  exact ⟨s.ext 1 m, rfl, hk⟩
theorem K_seen {T : Int} {s : LS} {now : Int} (h : K T s now) (m : Int) (m0 : now ≤ m) (m1 : m ≤ 1000000) : ∃ s', s.seen 1 1 m = (s', true) ∧ K T s' m ∧ s'.seen 1 2 m = (s', false) := by
  have hk := K_ext h m m0 m1
  have w0 := h.w0
  have e4 : (1 : Int).toNat = 1 := rfl
  refine ⟨s.ext 1 m, ?_, hk, ?_⟩
  · unfold LS.seen LS.okSeen LS.isW timeB
    rw [e4, h.n1, h.ep, decide_eq_true (by omega : 0 ≤ m), decide_eq_true (by omega : m ≤ 1099511627776)]
    rfl
  · unfold LS.seen LS.okSeen LS.isW timeB
    rw [e4, hk.n1, hk.ep]
    rfl
theorem K_start (T : Int) (h0 : 1 ≤ T) (h1 : T ≤ 20) : ((LS.init 1 T).live 1 0 = false) ∧ ∃ s', (LS.init 1 T).hello 1 1 0 = (s', 1, 0) ∧ K T s' 0 := by
  have hw := wf_hello (wf_init 1 T (by omega) (by omega) h0 (by omega)) 1 1 0
  refine ⟨rfl, ((LS.init 1 T).born 1 1).ext 1 0, rfl, hw, rfl, rfl, rfl, rfl, ?_, by omega, by omega⟩
  show max 0 (0 + T) = _
  omega
theorem K_end {T : Int} {s : LS} {now : Int} (h : K T s now) (look : Int) : s.live 1 (now + look) = decide (look ≤ T) ∧ s.epochOf 1 = 1 := by
  have e4 : (1 : Int).toNat = 1 := rfl
  unfold LS.live LS.epochOf LS.isW
  rw [e4, h.n1, h.ep, h.ti]
  refine ⟨?_, rfl⟩
  by_cases hl : look ≤ T
  · rw [decide_eq_true hl, decide_eq_true (by omega : now + look ≤ now + T)]; rfl
  · rw [decide_eq_false hl, decide_eq_false (by omega : ¬ now + look ≤ now + T)]; rfl

theorem lives_awake (A1 A2 : Option Addr) (len1 c1 len2 c2 : Nat) (term look : Int) (hlt : (30 : Int) < len1 ∨ (30 : Int) < len2) (hb1 : len1 ≤ 9223372036854775807) (hb2 : len2 ≤ 9223372036854775807) (w : World) :
    Calls Try.prog 4 #[.int .i64 term, .slice A1 len1 c1, .slice A2 len2 c2, .int .i64 look] w fun e w' => e = .returned (.bool true) ∧ Below w.heap.size w w' := by
  by_cases h1 : (30 : Int) < len1
  · have hltb : decide ((30 : Int) < len1) = true := decide_eq_true h1
    go_enter Try.func4, Try.ntmps4
    go_wp2_with (go_at_call 9; refine (awake_calls _).mono ?_; rintro e w' ⟨rfl, hb1⟩; have HB := Lib.hid hb1; clear hb1)
    go_ret
    exact ⟨rfl, HB.out⟩
  · have h2 : (30 : Int) < len2 := by omega
    have hltb : decide ((30 : Int) < len1) = false := decide_eq_false h1
    have hltc : decide ((30 : Int) < len2) = true := decide_eq_true h2
    go_enter Try.func4, Try.ntmps4
    go_wp2_with (go_at_call 9; refine (awake_calls _).mono ?_; rintro e w' ⟨rfl, hb1⟩; have HB := Lib.hid hb1; clear hb1)
    go_ret
    exact ⟨rfl, HB.out⟩

set_option maxRecDepth 100000 in
set_option maxHeartbeats 4000000 in
theorem lives_go (A1 A2 : Option Addr) (len1 c1 len2 c2 : Nat) (f : Nat → Int) (b : Nat → Bool) (term look : Int) (hl1 : len1 ≤ 30) (hc1 : len1 ≤ c1) (hl2 : len2 ≤ 30) (hc2 : len2 ≤ c2) (w : World) (h1 : Rd w A1 len1 (fun j => .int .i64 (f j))) (h2 : Rd w A2 len2 (fun j => .bool (b j))) :
    Calls Try.prog 4 #[.int .i64 term, .slice A1 len1 c1, .slice A2 len2 c2, .int .i64 look] w fun e w' => e = .returned (.bool true) ∧ Below w.heap.size w w' := by
  have hltb : decide ((30 : Int) < len1) = false := decide_eq_false (by omega)
  have hltc : decide ((30 : Int) < len2) = false := decide_eq_false (by omega)
  obtain ⟨T, ⟨T0, T1⟩, LT⟩ := low_calls term 20 (by omega) (by omega)
  obtain ⟨L, ⟨L0, L1⟩, LL⟩ := low_calls look 60 (by omega) (by omega)
  have HLT := Lib.hid LT
  have HLL := Lib.hid LL
  have HX1 := Lib.hid h1
  have HX2 := Lib.hid h2
  obtain ⟨q1, s', q2, q3⟩ := K_start (1 + T) (by omega) (by omega)
  have HK := Lib.hid q3
  have HLV := Lib.hid (fun g W => live_calls g (LS.init 1 (1 + T)) (wf_init 1 (1 + T) (by omega) (by omega) (by omega) (by omega)) 1 0 W)
  have HHE := Lib.hid (fun g W => hello_calls g (LS.init 1 (1 + T)) (wf_init 1 (1 + T) (by omega) (by omega) (by omega) (by omega)) 1 1 0 W)
  have HNW := Lib.hid (fun W => new_calls 1 (1 + T) (by unfold okNew; simp; omega) W)
  rw [q1] at HLV
  rw [q2] at HHE
  clear LT LL h1 h2 q1 q2 q3
  go_enter Try.func4, Try.ntmps4
  go_wp2_with fail
  refine (HLT.out _).mono ?_
  rintro e w2 ⟨rfl, ⟨⟨n1, rfl⟩⟩⟩
  go_wp2_with fail
  refine (HNW.out _).mono ?_
  rintro e w1 ⟨rfl, hA, hb⟩
  have HA := Lib.hid hA
  have HB : Hid (Below w.heap.size w w1) := below_step (pw_below_drewN (Below.refl _ _) n1) hb
  clear hA hb
  go_wp2_with fail
  refine (HLV.out _ _ HA.out).mono ?_
  rintro e w2 ⟨rfl, rfl⟩
  go_wp2_with fail
  refine (HHE.out _ _ HA.out).mono ?_
  rintro e w2 ⟨rfl, hA2, hG2⟩
  have HA2 : Hid (IsA w2 w.heap.size s') := hA2
  have HB2 : Hid (Below w.heap.size w w2) := below_grown HB.out hG2 (Nat.le_refl _)
  clear hA2 hG2
  go_wp2_with fail
  go_loopw [11, 12] (fun vn vi wr => ∃ (s : LS) (n i : Int), vn = .int .i64 n ∧ vi = .int .i64 i ∧ 0 ≤ i ∧ i ≤ len1 ∧ 0 ≤ n ∧ n ≤ 15 * i ∧ Hid (K (1 + T) s n) ∧ Hid (IsA wr w.heap.size s) ∧ Hid (Below w.heap.size w wr)) (fun _ vi wr => len1 - (intOf vi).toNat)
  case atStart => exact ⟨s', 0, 0, rfl, rfl, by omega, by omega, by omega, by omega, HK.out, HA2.out, HB2.out⟩
  case round =>
    obtain ⟨s, n, i, rfl, rfl, hi0, hi1, hn0, hn1, HJ, HS, HW⟩ := hrel
    by_cases hlt : i < len1
    · have hltd : decide (i < (len1 : Int)) = true := decide_eq_true hlt
      obtain ⟨ad, rfl, hcell⟩ := rd_cell (rd_below HX1.out HW.out) i.toNat (by omega)
      generalize f i.toNat = x at hcell
      obtain ⟨y, ⟨y0, y1⟩, LY⟩ := low_calls x 15 (by omega) (by omega)
      have HLY := Lib.hid LY
      clear LY
      have hello : ∃ s1, s.hello 1 1 (n + y) = (s1, 1, 0) ∧ K (1 + T) s1 (n + y) := K_hello HJ.out (n + y) (by omega) (by omega)
      obtain ⟨s1, e1, k1⟩ := hello
      have HH := Lib.hid (fun W => hello_calls w.heap.size s HJ.out.wf 1 1 (n + y) W)
      rw [e1] at HH
      have HK1 := Lib.hid k1
      clear e1 k1
      by_cases hs : i < len2
      · have hsb : decide (i < (len2 : Int)) = true := decide_eq_true hs
        obtain ⟨ad2, rfl, hcell2⟩ := rd_cell (rd_below HX2.out HW.out) i.toNat (by omega)
        cases hbi : b i.toNat with
        | false =>
          rw [hbi] at hcell2
          go_wp2_with fail
          refine (HLY.out _).mono ?_
          rintro e w2 ⟨rfl, ⟨⟨n1, rfl⟩⟩⟩
          go_wp2_with fail
          refine (HH.out _ (isA_drewN HS.out _)).mono ?_
          rintro e w2 ⟨rfl, hA2, hG2⟩
          have HA2 := Lib.hid hA2
          have HG2 := Lib.hid hG2
          clear hA2 hG2
          go_wp2_with fail
          go_roundw
          case rel => exact ⟨s1, n + y, i + 1, rfl, rfl, by omega, by omega, by omega, by omega, HK1.out, HA2.out, below_grown (pw_below_drewN HW.out _) HG2.out (Nat.le_refl _)⟩
          case measure => simp [intOf]; omega
        | true =>
          rw [hbi] at hcell2
          obtain ⟨s2, e1, k2, e2⟩ := K_seen HJ.out (n + y) (by omega) (by omega)
          have HS1 := Lib.hid (fun W => seen_calls w.heap.size s HJ.out.wf 1 1 (n + y) W)
          have HS2 := Lib.hid (fun W => seen_calls w.heap.size s2 k2.wf 1 2 (n + y) W)
          rw [e1] at HS1
          rw [e2] at HS2
          have HK2 := Lib.hid k2
          clear e1 e2 k2
          go_wp2_with fail
          refine (HLY.out _).mono ?_
          rintro e w2 ⟨rfl, ⟨⟨n1, rfl⟩⟩⟩
          go_wp2_with fail
          refine (HS1.out _ (isA_drewN HS.out _)).mono ?_
          rintro e w2 ⟨rfl, hA2, hG2⟩
          have HA2 := Lib.hid hA2
          have HG2 := Lib.hid hG2
          clear hA2 hG2
          go_wp2_with fail
          refine (HS2.out _ HA2.out).mono ?_
          rintro e w3 ⟨rfl, hA3, hG3⟩
          have HA3 := Lib.hid hA3
          have HG3 := Lib.hid hG3
          clear hA3 hG3
          go_wp2_with fail
          go_roundw
          case rel => exact ⟨s2, n + y, i + 1, rfl, rfl, by omega, by omega, by omega, by omega, HK2.out, HA3.out, below_grown (pw_below_drewN HW.out _) (grown_trans HG2.out HG3.out) (Nat.le_refl _)⟩
          case measure => simp [intOf]; omega
      · have hsb : decide (i < (len2 : Int)) = false := decide_eq_false hs
        go_wp2_with fail
        refine (HLY.out _).mono ?_
        rintro e w2 ⟨rfl, ⟨⟨n1, rfl⟩⟩⟩
        go_wp2_with fail
        refine (HH.out _ (isA_drewN HS.out _)).mono ?_
        rintro e w2 ⟨rfl, hA2, hG2⟩
        have HA2 := Lib.hid hA2
        have HG2 := Lib.hid hG2
        clear hA2 hG2
        go_wp2_with fail
        go_roundw
        case rel => exact ⟨s1, n + y, i + 1, rfl, rfl, by omega, by omega, by omega, by omega, HK1.out, HA2.out, below_grown (pw_below_drewN HW.out _) HG2.out (Nat.le_refl _)⟩
        case measure => simp [intOf]; omega
    · have hltd : decide (i < (len1 : Int)) = false := decide_eq_false hlt
      obtain ⟨e1, e2⟩ := K_end HJ.out L
      have LV := live_calls w.heap.size s HJ.out.wf 1 (n + L)
      have E4 := epoch_calls w.heap.size s HJ.out.wf 1
      rw [e1] at LV
      rw [e2] at E4
      have HE4 := Lib.hid E4
      have HLV2 := Lib.hid LV
      clear e1 e2 E4 LV
      go_wp2_with fail
      refine (HLL.out _).mono ?_
      rintro e w2 ⟨rfl, ⟨⟨n1, rfl⟩⟩⟩
      go_wp2_with fail
      refine (HLV2.out _ (isA_drewN HS.out _)).mono ?_
      rintro e w' ⟨rfl, rfl⟩
      go_wp2_with fail
      refine (HE4.out _ (isA_drewN HS.out _)).mono ?_
      rintro e w' ⟨rfl, rfl⟩
      go_wp2_with fail
      refine (awake_calls _).mono ?_
      rintro e w3 ⟨rfl, hb3⟩
      have HB3 := Lib.hid hb3
      clear hb3
      go_wp2_with fail
      go_ret
      exact ⟨by simp, below_step (pw_below_drewN HW.out _) HB3.out⟩
theorem lives_walk (term : Int) (A1 : Option Addr) (len1 c1 : Nat) (zs : List Int) (A2 : Option Addr) (len2 c2 : Nat) (b : Nat → Bool) (look : Int) (w : World) (ht : (Lit.int .i64 term).wf = true) (h1 : RowIn .i64 w A1 len1 c1 zs) (hy : len1 * 8 ≤ 140737488351232) (h2 : BoolsIn w A2 len2 c2 b) (hn : (Lit.int .i64 look).wf = true) :
    Calls Try.prog 4 #[.int .i64 term, .slice A1 len1 c1, .slice A2 len2 c2, .int .i64 look] w fun e w' => e = .returned (.bool true) ∧ Below w.heap.size w w' := by
  have z1 := h2.le
  have z2 := h2.mx
  by_cases hlt : (30 : Int) < len1 ∨ (30 : Int) < len2
  · exact lives_awake A1 A2 len1 c1 len2 c2 term look hlt (by omega) (by omega) w
  · have hr := rd_row h1
    refine lives_go A1 A2 len1 c1 len2 c2 (fun j => zs.getD j 0) b term look (by omega) ?_ (by omega) z1 w hr h2.rd
    rcases h1 with ⟨_, h1, h2, _⟩ | ⟨x, h1, h2, _⟩
    · omega
    · exact h2
end Go.Proofs.Ytjebpccoddcnjaa
