/- The walk of the reference's Hello. -/
import Derived.Test.YtjebpccoddcnjaaRef
namespace Go.Proofs.Ytjebpccoddcnjaa
open Go.RowKit
set_option linter.unusedVariables false
set_option linter.unusedSimpArgs false

theorem isB_ext {w : World} {g : Nat} {s : LS} (h : IsB w g s) (k now : Int) (hk : k.toNat < 6) (X : Int) (em : max (s.till k.toNat) (now + s.term) = X) :
    IsB (w.setCell ⟨g, k.toNat * 3 + 2, none⟩ (.int .i64 X)).drew g (s.ext k now) := by
  have q := blk_set h (k.toNat * 3 + 2) X
  refine blk_congr q (fun j hj => ?_)
  show _ = LS.encB { s with till := upd s.till k.toNat (max (s.till k.toNat) (now + s.term)) } j
  rw [em]
  exact setB_till s k.toNat hk _ j hj
theorem isB_born {w : World} {g : Nat} {s : LS} (h : IsB w g s) (k life : Int) (hk : k.toNat < 6) :
    IsB ((w.setCell ⟨g, k.toNat * 3 + 1, none⟩ (.int .i64 life)).setCell ⟨g, k.toNat * 3, none⟩ (.int .i64 (s.epoch k.toNat + 1))).drew g (s.born k life) := by
  have h1 : IsB (w.setCell ⟨g, k.toNat * 3 + 1, none⟩ (.int .i64 life)) g { s with life := upd s.life k.toNat life } := blk_congr (blk_set h _ _) (fun j hj => setB_life s k.toNat hk _ j hj)
  exact blk_congr (blk_set h1 _ _) (fun j hj => setB_epoch _ k.toNat hk _ j hj)

theorem grown_set2 (w : World) (p : Addr) (v : Value) : w.grownBy (w.setCell p v).drew.drew (some p.block) :=
  ⟨rfl, rfl, rfl, by show _ ≤ (w.setCell p v).heap.size; simp, fun k hk hne => Below.heap_setCell w p v k (fun e => hne (by rw [e]))⟩

set_option maxRecDepth 100000 in
set_option maxHeartbeats 8000000 in
theorem rhello_calls (g : Nat) (s : LS) (hs : WF s) (k life now : Int) (w : World) (hB : IsB w g s) :
    Calls Try.prog 20 #[.pointer (some ⟨g, 0, none⟩), .int .i64 k, .int .i64 life, .int .i64 now] w fun e w' =>
      e = .returned (.tuple #[.int .i64 (s.hello k life now).2.1, .int .i64 (s.hello k life now).2.2]) ∧ IsB w' g (s.hello k life now).1 ∧ w.grownBy w' (some g) := by
  have G := Lib.hid (fun W h => is_calls g s k W h)
  have HB := Lib.hid hB
  unfold LS.hello LS.badHello
  cases hw : s.isW k with
  | false =>
    rw [hw] at G
    simp only [Bool.not_false, Bool.true_or, Bool.false_eq_true, if_false, if_true] at G ⊢
    clear hw hB
    go_enter Try.func20, Try.ntmps20
    go_wp2_with (go_at_call 25; refine (G.out _ HB.out).mono ?_; rintro e w' ⟨rfl, rfl⟩)
    go_ret2
    exact ⟨rfl, HB.out, World.grownBy.refl _ _⟩
  | true =>
  rw [hw] at G
  obtain ⟨b0, b1⟩ := isW_bd hs hw
  simp only [Bool.not_true, Bool.false_or] at G ⊢
  clear hw
  have p0 : 0 ≤ k := by omega
  have p1 : k < 6 := by omega
  cases h1 : decide (life < 1) with
  | true =>
    simp only [Bool.true_or, if_true]
    clear hB
    go_enter Try.func20, Try.ntmps20
    go_wp2_with (go_at_call 25; refine (G.out _ HB.out).mono ?_; rintro e w' ⟨rfl, rfl⟩)
    go_ret2
    exact ⟨rfl, HB.out, World.grownBy.refl _ _⟩
  | false =>
  cases h2 : decide (2147483647 < life) with
  | true =>
    simp only [Bool.or_true, Bool.true_or, if_true]
    clear hB
    go_enter Try.func20, Try.ntmps20
    go_wp2_with (go_at_call 25; refine (G.out _ HB.out).mono ?_; rintro e w' ⟨rfl, rfl⟩)
    go_ret2
    exact ⟨rfl, HB.out, World.grownBy.refl _ _⟩
  | false =>
  unfold timeB
  cases h3 : decide (now < 0) with
  | true =>
    have h3b : decide (0 ≤ now) = false := by rw [decide_eq_true_eq] at h3; rw [decide_eq_false_iff_not]; omega
    rw [h3b]
    clear h3b
    simp only [Bool.false_and, Bool.not_false, Bool.or_true, if_true]
    clear hB
    go_enter Try.func20, Try.ntmps20
    go_wp2_with (go_at_call 25; refine (G.out _ HB.out).mono ?_; rintro e w' ⟨rfl, rfl⟩)
    go_ret2
    exact ⟨rfl, HB.out, World.grownBy.refl _ _⟩
  | false =>
  have h3a : 0 ≤ now := by rw [decide_eq_false_iff_not] at h3; omega
  have h3b : decide (0 ≤ now) = true := decide_eq_true h3a
  rw [h3b]
  clear h3b
  cases h4 : decide (1099511627776 < now) with
  | true =>
    have h4b : decide (now ≤ 1099511627776) = false := by rw [decide_eq_true_eq] at h4; rw [decide_eq_false_iff_not]; omega
    rw [h4b]
    clear h4b h3a
    simp only [Bool.and_false, Bool.not_false, Bool.or_true, if_true]
    clear hB
    go_enter Try.func20, Try.ntmps20
    go_wp2_with (go_at_call 25; refine (G.out _ HB.out).mono ?_; rintro e w' ⟨rfl, rfl⟩)
    go_ret2
    exact ⟨rfl, HB.out, World.grownBy.refl _ _⟩
  | false =>
  have h4a : now ≤ 1099511627776 := by rw [decide_eq_false_iff_not] at h4; omega
  rw [decide_eq_true h4a]
  simp only [Bool.and_self, Bool.not_true, Bool.or_self, Bool.false_eq_true, if_false]
  have hc1 := blk_cell hB (k.toNat * 3 + 1) (by omega)
  rw [encB_life s k.toNat (by omega)] at hc1
  cases h5 : decide (life < s.life k.toNat) with
  | true =>
    have h5a : life < s.life k.toNat := of_decide_eq_true h5
    rw [if_pos h5a]
    clear h5a hB
    go_enter Try.func20, Try.ntmps20
    go_wp2_with (go_at_call 25; refine (G.out _ HB.out).mono ?_; rintro e w' ⟨rfl, rfl⟩)
    go_ret2
    exact ⟨rfl, HB.out, World.grownBy.refl _ _⟩
  | false =>
  have h5a : ¬ life < s.life k.toNat := of_decide_eq_false h5
  rw [if_neg h5a]
  clear h5a
  have t0 := hs.t0
  have t1 := hs.t1
  have u0 := hs.u0 k.toNat
  have u1 := hs.u1 k.toNat
  have e0 := hs.e0 k.toNat
  have e1 := hs.e1 k.toNat
  have l1 := hs.l1 k.toNat
  have hc0 := blk_cell hB (k.toNat * 3) (by omega)
  have hf0 := blk_free hB (k.toNat * 3)
  have hf1 := blk_free hB (k.toNat * 3 + 1)
  rw [encB_epoch s k.toNat (by omega)] at hc0
  have hc2 := blk_cell hB (k.toNat * 3 + 2) (by omega)
  have hf2 := blk_free hB (k.toNat * 3 + 2)
  rw [encB_till s k.toNat (by omega)] at hc2
  have hc3 := blk_cell hB 19 (by omega)
  have e19 : s.encB 19 = s.term := rfl
  rw [e19] at hc3
  clear e19
  cases h6 : decide (s.life k.toNat < life) with
  | false =>
    have h6a : ¬ s.life k.toNat < life := of_decide_eq_false h6
    rw [if_neg h6a]
    clear h6a hB
    go_enter Try.func20, Try.ntmps20
    go_wp2_with (go_at_call 25; refine (G.out _ HB.out).mono ?_; rintro e w' ⟨rfl, rfl⟩)
    go_region
    go_wp2_with fail
    all_goals go_ret2
    · exact ⟨rfl, isB_ext HB.out k now (by omega) _ (by omega), grown_set _ _ _⟩
    · exact ⟨rfl, isB_ext HB.out k now (by omega) _ (by omega), grown_set _ _ _⟩
  | true =>
    have h6a : s.life k.toNat < life := of_decide_eq_true h6
    rw [if_pos h6a]
    clear h6a hB
    go_enter Try.func20, Try.ntmps20
    go_wp2_with (go_at_call 25; refine (G.out _ HB.out).mono ?_; rintro e w' ⟨rfl, rfl⟩)
    go_region
    go_wp2_with fail
    go_region
    go_wp2_with fail
    all_goals go_ret2
    · exact ⟨rfl, isB_ext (isB_born HB.out k life (by omega)) k now (by omega) _ (show max (s.till k.toNat) (now + s.term) = _ by omega), grown_trans (grown_trans (grown_set0 _ _ _) (grown_set0 _ _ _)) (grown_set2 _ _ _)⟩
    · exact ⟨rfl, isB_ext (isB_born HB.out k life (by omega)) k now (by omega) _ (show max (s.till k.toNat) (now + s.term) = _ by omega), grown_trans (grown_trans (grown_set0 _ _ _) (grown_set0 _ _ _)) (grown_set2 _ _ _)⟩
end Go.Proofs.Ytjebpccoddcnjaa
