/- The walks of the reference's table. -/
import Derived.Test.YtjebpccoddcnjaaActs
namespace Go.Proofs.Ytjebpccoddcnjaa
open Go.RowKit
set_option linter.unusedVariables false
set_option linter.unusedSimpArgs false

theorem isB_below {w w1 : World} {g : Nat} {s : LS} (h : IsB w g s) (hb : Below w.heap.size w w1) : IsB w1 g s := blk_keep h (hb.block g (blk_lt h))
theorem isB_grown {w w1 : World} {g r : Nat} {s : LS} (h : IsB w g s) (hg : w.grownBy w1 (some r)) (hne : g ≠ r) : IsB w1 g s :=
  blk_keep h (hg.block g (blk_lt h) (fun e => hne (by injection e)))

set_option maxRecDepth 100000 in
theorem is_calls (g : Nat) (s : LS) (k : Int) (w : World) (hB : IsB w g s) :
    Calls Try.prog 25 #[.pointer (some ⟨g, 0, none⟩), .int .i64 k] w fun e w' => e = .returned (.bool (s.isW k)) ∧ w = w' := by
  have hc0 := blk_cell hB 18 (by omega)
  have e0 : s.encB 18 = s.n := rfl
  rw [e0] at hc0
  unfold LS.isW
  generalize s.n = n at *
  clear e0 hB
  cases h1 : decide (1 ≤ k) with
  | false =>
    go_enter Try.func25, Try.ntmps25
    go_wp2_with fail
    go_ret
    exact ⟨rfl, rfl⟩
  | true =>
    go_enter Try.func25, Try.ntmps25
    go_wp2_with fail
    go_ret
    exact ⟨rfl, rfl⟩

set_option maxRecDepth 100000 in
set_option maxHeartbeats 2000000 in
theorem rlive_calls (g : Nat) (s : LS) (hs : WF s) (k now : Int) (w : World) (hB : IsB w g s) :
    Calls Try.prog 21 #[.pointer (some ⟨g, 0, none⟩), .int .i64 k, .int .i64 now] w fun e w' => e = .returned (.bool (s.live k now)) ∧ w = w' := by
  have G := Lib.hid (fun W h => is_calls g s k W h)
  have HB := Lib.hid hB
  unfold LS.live
  cases hw : s.isW k with
  | false =>
    rw [hw] at G
    simp only [Bool.false_and] at G ⊢
    clear hw hB
    go_enter Try.func21, Try.ntmps21
    go_wp2_with (go_at_call 25; refine (G.out _ HB.out).mono ?_; rintro e w' ⟨rfl, rfl⟩)
    go_ret
    exact ⟨rfl, rfl⟩
  | true =>
    rw [hw] at G
    obtain ⟨b0, b1⟩ := isW_bd hs hw
    have hc1 := blk_cell hB (k.toNat * 3) (by omega)
    have hc2 := blk_cell hB (k.toNat * 3 + 2) (by omega)
    rw [encB_epoch s k.toNat (by omega)] at hc1
    rw [encB_till s k.toNat (by omega)] at hc2
    simp only [Bool.true_and] at G ⊢
    clear hw hB
    have p0 : 0 ≤ k := by omega
    have p1 : k < 6 := by omega
    generalize s.epoch k.toNat = ep at *
    generalize s.till k.toNat = ti at *
    cases h1 : decide (0 < ep) with
    | false =>
      go_enter Try.func21, Try.ntmps21
      go_wp2_with (go_at_call 25; refine (G.out _ HB.out).mono ?_; rintro e w' ⟨rfl, rfl⟩)
      go_ret
      exact ⟨rfl, rfl⟩
    | true =>
      go_enter Try.func21, Try.ntmps21
      go_wp2_with (go_at_call 25; refine (G.out _ HB.out).mono ?_; rintro e w' ⟨rfl, rfl⟩)
      go_ret
      exact ⟨rfl, rfl⟩

theorem initB_cells (n term : Int) : cellsOf 20 (LS.init n term).encB = #[.int .i64 0, .int .i64 0, .int .i64 0, .int .i64 0, .int .i64 0, .int .i64 0, .int .i64 0, .int .i64 0, .int .i64 0, .int .i64 0, .int .i64 0, .int .i64 0, .int .i64 0, .int .i64 0, .int .i64 0, .int .i64 0, .int .i64 0, .int .i64 0, .int .i64 n, .int .i64 term] := by
  unfold cellsOf
  rw [range20]
  simp [LS.encB, LS.init]
set_option maxRecDepth 100000 in
set_option maxHeartbeats 2000000 in
theorem rnew_calls (n term : Int) (h : okNew n term = true) (w : World) :
    Calls Try.prog 17 #[.int .i64 n, .int .i64 term] w fun e w' => ∃ g, e = .returned (.tuple #[.pointer (some ⟨g, 0, none⟩), .int .i64 0]) ∧ w.heap.size ≤ g ∧ IsB w' g (LS.init n term) ∧ Below w.heap.size w w' := by
  obtain ⟨⟨⟨h0, h1⟩, h2⟩, h3⟩ : ((1 ≤ n ∧ n ≤ 5) ∧ 1 ≤ term) ∧ term ≤ 1000 := by simpa [okNew] using h
  clear h
  go_enter Try.func17, Try.ntmps17
  go_wp2_with fail
  go_ret2
  refine ⟨w.heap.size, rfl, Nat.le_refl _, ?_, (Below.refl _ _).alloc (Nat.le_refl _) _⟩
  unfold IsB Blk
  rw [initB_cells]
  show (w.heap.push _)[w.heap.size]? = _
  simp
set_option maxRecDepth 100000 in
set_option maxHeartbeats 2000000 in
theorem rnew_bad (n term : Int) (h : okNew n term = false) (w : World) :
    Calls Try.prog 17 #[.int .i64 n, .int .i64 term] w fun e w' => e = .returned (.tuple #[.pointer none, .int .i64 2]) ∧ w = w' := by
  unfold okNew at h
  cases h0 : decide (n < 1) with
  | true =>
    clear h
    go_enter Try.func17, Try.ntmps17
    go_wp2_with fail
    go_ret2
    exact ⟨rfl, rfl⟩
  | false =>
  cases h1 : decide (5 < n) with
  | true =>
    clear h
    go_enter Try.func17, Try.ntmps17
    go_wp2_with fail
    go_ret2
    exact ⟨rfl, rfl⟩
  | false =>
  cases h2 : decide (term < 1) with
  | true =>
    clear h
    go_enter Try.func17, Try.ntmps17
    go_wp2_with fail
    go_ret2
    exact ⟨rfl, rfl⟩
  | false =>
  have h3 : decide (1000 < term) = true := by
    simp only [decide_eq_false_iff_not] at h0 h1 h2
    rw [decide_eq_true (by omega : 1 ≤ n), decide_eq_true (by omega : n ≤ 5), decide_eq_true (by omega : 1 ≤ term)] at h
    simp at h
    rw [decide_eq_true_eq]; omega
  clear h
  go_enter Try.func17, Try.ntmps17
  go_wp2_with fail
  go_ret2
  exact ⟨rfl, rfl⟩

set_option maxRecDepth 100000 in
set_option maxHeartbeats 4000000 in
theorem rseen_calls (g : Nat) (s : LS) (hs : WF s) (k ep now : Int) (w : World) (hB : IsB w g s) :
    Calls Try.prog 19 #[.pointer (some ⟨g, 0, none⟩), .int .i64 k, .int .i64 ep, .int .i64 now] w fun e w' => e = .returned (.bool (s.seen k ep now).2) ∧ IsB w' g (s.seen k ep now).1 ∧ w.grownBy w' (some g) := by
  have G := Lib.hid (fun W h => is_calls g s k W h)
  have HB := Lib.hid hB
  unfold LS.seen LS.okSeen
  cases hw : s.isW k with
  | false =>
    rw [hw] at G
    simp only [Bool.false_and, Bool.false_eq_true, if_false] at G ⊢
    clear hw hB
    go_enter Try.func19, Try.ntmps19
    go_wp2_with (go_at_call 25; refine (G.out _ HB.out).mono ?_; rintro e w' ⟨rfl, rfl⟩)
    go_ret
    exact ⟨rfl, HB.out, World.grownBy.refl _ _⟩
  | true =>
    rw [hw] at G
    obtain ⟨b0, b1⟩ := isW_bd hs hw
    have hc1 := blk_cell hB (k.toNat * 3) (by omega)
    rw [encB_epoch s k.toNat (by omega)] at hc1
    simp only [Bool.true_and] at G ⊢
    clear hw
    have p0 : 0 ≤ k := by omega
    have p1 : k < 6 := by omega
    cases h1 : s.epoch k.toNat == 0 with
    | true =>
      clear hB
      simp only [Bool.not_true, Bool.false_and, Bool.false_eq_true, if_false]
      go_enter Try.func19, Try.ntmps19
      go_wp2_with (go_at_call 25; refine (G.out _ HB.out).mono ?_; rintro e w' ⟨rfl, rfl⟩)
      go_ret
      exact ⟨rfl, HB.out, World.grownBy.refl _ _⟩
    | false =>
      cases h2 : s.epoch k.toNat == ep with
      | false =>
        have h2b : (s.epoch k.toNat != ep) = true := by rw [bne_iff_ne]; rw [beq_eq_false_iff_ne] at h2; exact h2
        clear hB h2
        simp only [Bool.and_false, Bool.false_and, Bool.false_eq_true, if_false]
        go_enter Try.func19, Try.ntmps19
        go_wp2_with (go_at_call 25; refine (G.out _ HB.out).mono ?_; rintro e w' ⟨rfl, rfl⟩)
        go_ret
        exact ⟨rfl, HB.out, World.grownBy.refl _ _⟩
      | true =>
        have h2b : (s.epoch k.toNat != ep) = false := by rw [bne_eq_false_iff_eq]; rw [beq_iff_eq] at h2; exact h2
        clear h2
        unfold timeB
        cases h3 : decide (now < 0) with
        | true =>
          have h3b : decide (0 ≤ now) = false := by rw [decide_eq_true_eq] at h3; rw [decide_eq_false_iff_not]; omega
          rw [h3b]
          clear h3b
          simp only [Bool.and_false, Bool.false_and, Bool.false_eq_true, if_false]
          clear hB
          go_enter Try.func19, Try.ntmps19
          go_wp2_with (go_at_call 25; refine (G.out _ HB.out).mono ?_; rintro e w' ⟨rfl, rfl⟩)
          go_ret
          exact ⟨rfl, HB.out, World.grownBy.refl _ _⟩
        | false =>
        have h3a : 0 ≤ now := by rw [decide_eq_false_iff_not] at h3; omega
        have h3b : decide (0 ≤ now) = true := decide_eq_true h3a
        rw [h3b]
        clear h3b
        cases h4 : decide (1099511627776 < now) with
        | true =>
          have h4b : decide (now ≤ 1099511627776) = false := by rw [decide_eq_true_eq] at h4; rw [decide_eq_false_iff_not]; omega
          rw [h4b]
          clear h4b h3a
          simp only [Bool.and_false, Bool.false_eq_true, if_false]
          clear hB
          go_enter Try.func19, Try.ntmps19
          go_wp2_with (go_at_call 25; refine (G.out _ HB.out).mono ?_; rintro e w' ⟨rfl, rfl⟩)
          go_ret
          exact ⟨rfl, HB.out, World.grownBy.refl _ _⟩
        | false =>
          have h4a : now ≤ 1099511627776 := by rw [decide_eq_false_iff_not] at h4; omega
          rw [decide_eq_true h4a]
          simp only [Bool.not_false, Bool.and_true, if_true]
          have hc2 := blk_cell hB (k.toNat * 3 + 2) (by omega)
          have hf2 := blk_free hB (k.toNat * 3 + 2)
          rw [encB_till s k.toNat (by omega)] at hc2
          have hc3 := blk_cell hB 19 (by omega)
          have e1 : s.encB 19 = s.term := rfl
          rw [e1] at hc3
          have t0 := hs.t0
          have t1 := hs.t1
          have u0 := hs.u0 k.toNat
          have u1 := hs.u1 k.toNat
          have hB2 := Lib.hid (blk_set hB (k.toNat * 3 + 2) (max (s.till k.toNat) (now + s.term)))
          clear e1 hB
          go_enter Try.func19, Try.ntmps19
          go_wp2_with (go_at_call 25; refine (G.out _ HB.out).mono ?_; rintro e w' ⟨rfl, rfl⟩)
          go_region
          go_wp2_with fail
          · have em : max (s.till k.toNat) (now + s.term) = now + s.term := by omega
            go_ret
            refine ⟨rfl, ?_, grown_set _ _ _⟩
            have q := hB2.out
            rw [em] at q
            refine blk_congr q (fun j hj => ?_)
            show _ = LS.encB { s with till := upd s.till k.toNat (max (s.till k.toNat) (now + s.term)) } j
            rw [em]
            exact setB_till s k.toNat (by omega) _ j hj
          · have em : max (s.till k.toNat) (now + s.term) = s.till k.toNat := by omega
            go_ret
            refine ⟨rfl, ?_, grown_set _ _ _⟩
            have q := hB2.out
            rw [em] at q
            refine blk_congr q (fun j hj => ?_)
            show _ = LS.encB { s with till := upd s.till k.toNat (max (s.till k.toNat) (now + s.term)) } j
            rw [em]
            exact setB_till s k.toNat (by omega) _ j hj
end Go.Proofs.Ytjebpccoddcnjaa
