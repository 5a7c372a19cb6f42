/- The walks of lease's get, time, lives. -/
import Derived.Test.YtjebpccoddcnjaaProg
import Derived.Test.YtjebpccoddcnjaaPlain
import Derived.KernelRfl
import Derived.RowKit3
import Derived.Lib.Hide
import Derived.BigRegion
namespace Go.Proofs.Ytjebpccoddcnjaa
open Go.RowKit
set_option linter.unusedVariables false
set_option linter.unusedSimpArgs false

def getPtr (g : Nat) (s : LS) (k : Int) : Option Addr := if s.isW k then some ⟨g, 2 + k.toNat * 3, none⟩ else none

set_option maxRecDepth 100000 in
set_option maxHeartbeats 1000000 in
theorem get_calls (g : Nat) (s : LS) (hs : WF s) (k : Int) (w : World) (hA : IsA w g s) :
    Calls Try.prog 22 #[.pointer (some ⟨g, 0, none⟩), .int .i64 k] w fun e w' => e = .returned (.pointer (getPtr g s k)) ∧ w = w' := by
  have hc0 := blk_cell hA 0 (by omega)
  have e0 : s.encA 0 = s.n := rfl
  rw [e0] at hc0
  have n0 := hs.n0
  have n1 := hs.n1
  unfold getPtr LS.isW
  generalize s.n = n at *
  clear e0 hA hs
  by_cases h1 : k < 1
  · have h1b : decide (k < 1) = true := decide_eq_true h1
    rw [decide_eq_false (by omega : ¬ 1 ≤ k), Bool.false_and]
    go_enter Try.func22, Try.ntmps22
    go_wp2_with fail
    go_ret
    exact ⟨rfl, rfl⟩
  · have h1b : decide (k < 1) = false := decide_eq_false h1
    rw [decide_eq_true (by omega : 1 ≤ k), Bool.true_and]
    by_cases h2 : n < k
    · have h2b : decide (n < k) = true := decide_eq_true h2
      rw [decide_eq_false (by omega : ¬ k ≤ n)]
      go_enter Try.func22, Try.ntmps22
      go_wp2_with fail
      go_ret
      exact ⟨rfl, rfl⟩
    · have h2b : decide (n < k) = false := decide_eq_false h2
      rw [decide_eq_true (by omega : k ≤ n)]
      have p0 : 0 ≤ k := by omega
      have p1 : k < 6 := by omega
      go_enter Try.func22, Try.ntmps22
      go_wp2_with fail
      go_ret
      exact ⟨rfl, rfl⟩

theorem grown_set (w : World) (p : Addr) (v : Value) : w.grownBy (w.setCell p v).drew (some p.block) :=
  ⟨rfl, rfl, rfl, by show _ ≤ (w.setCell p v).heap.size; simp, fun k hk hne => Below.heap_setCell w p v k (fun e => hne (by rw [e]))⟩
theorem grown_set0 (w : World) (p : Addr) (v : Value) : w.grownBy (w.setCell p v) (some p.block) :=
  ⟨rfl, rfl, rfl, by simp, fun k hk hne => Below.heap_setCell w p v k (fun e => hne (by rw [e]))⟩
theorem grown_trans {a b c : World} {r : Option Nat} (h : a.grownBy b r) (k : b.grownBy c r) : a.grownBy c r :=
  ⟨k.os.trans h.os, k.tape.trans h.tape, k.output.trans h.output, Nat.le_trans h.size k.size, fun i hi hne => (k.block i (Nat.lt_of_lt_of_le hi h.size) hne).trans (h.block i hi hne)⟩

theorem get_nil (k : Int) (w : World) :
    Calls Try.prog 22 #[.pointer none, .int .i64 k] w fun e w' => e = .returned (.pointer none) ∧ w = w' := by
  go_enter Try.func22, Try.ntmps22
  go_wp2_with fail
  go_ret
  exact ⟨rfl, rfl⟩

theorem time_calls (now : Int) (w : World) :
    Calls Try.prog 23 #[.int .i64 now] w fun e w' => e = .returned (.bool (timeB now)) ∧ w = w' := by
  unfold timeB
  cases h1 : decide (0 ≤ now) with
  | false =>
    go_enter Try.func23, Try.ntmps23
    go_wp2_with fail
    go_ret
    exact ⟨rfl, rfl⟩
  | true =>
    go_enter Try.func23, Try.ntmps23
    go_wp2_with fail
    go_ret
    exact ⟨rfl, rfl⟩

set_option maxRecDepth 100000 in
set_option maxHeartbeats 1000000 in
theorem lives_calls (g : Nat) (s : LS) (hs : WF s) (k now : Int) (h0 : 1 ≤ k) (h1 : k ≤ 5) (ht : timeB now = true) (w : World) (hA : IsA w g s) :
    Calls Try.prog 24 #[.pointer (some ⟨g, 0, none⟩), .pointer (some ⟨g, 2 + k.toNat * 3, none⟩), .int .i64 now] w fun e w' => e = .returned (.tuple #[]) ∧ IsA w' g (s.ext k now) ∧ w.grownBy w' (some g) := by
  have hti := time_iff ht
  have hc1 := blk_cell hA 1 (by omega)
  have hc2 := blk_cell hA (2 + k.toNat * 3 + 2) (by omega)
  have hf2 := blk_free hA (2 + k.toNat * 3 + 2)
  rw [encA_till] at hc2
  have e1 : s.encA 1 = s.term := rfl
  rw [e1] at hc1
  have t0 := hs.t0
  have t1 := hs.t1
  have u0 := hs.u0 k.toNat
  have u1 := hs.u1 k.toNat
  have hA2 := Lib.hid (blk_set hA (2 + k.toNat * 3 + 2) (max (s.till k.toNat) (now + s.term)))
  obtain ⟨ti0, ti1⟩ := hti
  go_enter Try.func24, Try.ntmps24
  go_wp2_with fail
  go_region
  go_end0
  have em : (if s.till k.toNat < now + s.term then now + s.term else s.till k.toNat) = max (s.till k.toNat) (now + s.term) := by split <;> omega
  rw [em]
  refine ⟨rfl, ?_, ?_⟩
  · exact blk_congr hA2.out (fun j hj => setA_till s k.toNat _ j)
  · exact grown_set _ _ _

theorem isW_bd {s : LS} (hs : WF s) {k : Int} (h : s.isW k = true) : 1 ≤ k ∧ k ≤ 5 := by
  unfold LS.isW at h
  have := hs.n1
  simp at h
  omega

set_option maxRecDepth 100000 in
set_option maxHeartbeats 2000000 in
theorem live_calls (g : Nat) (s : LS) (hs : WF s) (k now : Int) (w : World) (hA : IsA w g s) :
    Calls Try.prog 15 #[.pointer (some ⟨g, 0, none⟩), .int .i64 k, .int .i64 now] w fun e w' => e = .returned (.bool (s.live k now)) ∧ w = w' := by
  have G := Lib.hid (fun W h => get_calls g s hs k W h)
  have HA := Lib.hid hA
  unfold LS.live
  unfold getPtr at G
  cases hw : s.isW k with
  | false =>
    rw [hw] at G
    simp only [Bool.false_and, Bool.false_eq_true, if_false] at G ⊢
    clear hw hA
    go_enter Try.func15, Try.ntmps15
    go_wp2_with (go_at_call 22; refine (G.out _ HA.out).mono ?_; rintro e w' ⟨rfl, rfl⟩)
    go_ret
    exact ⟨rfl, rfl⟩
  | true =>
    rw [hw] at G
    have hb := isW_bd hs hw
    have hc1 := blk_cell hA (2 + k.toNat * 3 + 1) (by omega)
    have hc2 := blk_cell hA (2 + k.toNat * 3 + 2) (by omega)
    rw [encA_epoch] at hc1
    rw [encA_till] at hc2
    simp only [if_true, Bool.true_and] at G ⊢
    clear hw hA
    generalize s.epoch k.toNat = ep at *
    generalize s.till k.toNat = ti at *
    cases h1 : decide (0 < ep) with
    | false =>
      go_enter Try.func15, Try.ntmps15
      go_wp2_with (go_at_call 22; refine (G.out _ HA.out).mono ?_; rintro e w' ⟨rfl, rfl⟩)
      go_ret
      exact ⟨rfl, rfl⟩
    | true =>
      go_enter Try.func15, Try.ntmps15
      go_wp2_with (go_at_call 22; refine (G.out _ HA.out).mono ?_; rintro e w' ⟨rfl, rfl⟩)
      go_ret
      exact ⟨rfl, rfl⟩

set_option maxRecDepth 100000 in
theorem epoch_calls (g : Nat) (s : LS) (hs : WF s) (k : Int) (w : World) (hA : IsA w g s) :
    Calls Try.prog 13 #[.pointer (some ⟨g, 0, none⟩), .int .i64 k] w fun e w' => e = .returned (.int .i64 (s.epochOf k)) ∧ w = w' := by
  have G := Lib.hid (fun W h => get_calls g s hs k W h)
  have HA := Lib.hid hA
  unfold LS.epochOf
  unfold getPtr at G
  cases hw : s.isW k with
  | false =>
    rw [hw] at G
    simp only [Bool.false_eq_true, if_false] at G ⊢
    clear hw hA
    go_enter Try.func13, Try.ntmps13
    go_wp2_with (go_at_call 22; refine (G.out _ HA.out).mono ?_; rintro e w' ⟨rfl, rfl⟩)
    go_ret
    exact ⟨rfl, rfl⟩
  | true =>
    rw [hw] at G
    have hb := isW_bd hs hw
    have hc1 := blk_cell hA (2 + k.toNat * 3 + 1) (by omega)
    rw [encA_epoch] at hc1
    simp only [if_true] at G ⊢
    clear hw hA
    go_enter Try.func13, Try.ntmps13
    go_wp2_with (go_at_call 22; refine (G.out _ HA.out).mono ?_; rintro e w' ⟨rfl, rfl⟩)
    go_ret
    exact ⟨rfl, rfl⟩

set_option maxRecDepth 100000 in
theorem life_calls (g : Nat) (s : LS) (hs : WF s) (k : Int) (w : World) (hA : IsA w g s) :
    Calls Try.prog 14 #[.pointer (some ⟨g, 0, none⟩), .int .i64 k] w fun e w' => e = .returned (.int .i64 (s.lifeOf k)) ∧ w = w' := by
  have G := Lib.hid (fun W h => get_calls g s hs k W h)
  have HA := Lib.hid hA
  unfold LS.lifeOf
  unfold getPtr at G
  cases hw : s.isW k with
  | false =>
    rw [hw] at G
    simp only [Bool.false_eq_true, if_false] at G ⊢
    clear hw hA
    go_enter Try.func14, Try.ntmps14
    go_wp2_with (go_at_call 22; refine (G.out _ HA.out).mono ?_; rintro e w' ⟨rfl, rfl⟩)
    go_ret
    exact ⟨rfl, rfl⟩
  | true =>
    rw [hw] at G
    have hb := isW_bd hs hw
    have hc1 := blk_cell hA (2 + k.toNat * 3) (by omega)
    rw [encA_life] at hc1
    simp only [if_true] at G ⊢
    clear hw hA
    go_enter Try.func14, Try.ntmps14
    go_wp2_with (go_at_call 22; refine (G.out _ HA.out).mono ?_; rintro e w' ⟨rfl, rfl⟩)
    go_ret
    exact ⟨rfl, rfl⟩

set_option maxRecDepth 100000 in
set_option maxHeartbeats 2000000 in
theorem seen_calls (g : Nat) (s : LS) (hs : WF s) (k ep now : Int) (w : World) (hA : IsA w g s) :
    Calls Try.prog 16 #[.pointer (some ⟨g, 0, none⟩), .int .i64 k, .int .i64 ep, .int .i64 now] w fun e w' => e = .returned (.bool (s.seen k ep now).2) ∧ IsA w' g (s.seen k ep now).1 ∧ w.grownBy w' (some g) := by
  have G := Lib.hid (fun W h => get_calls g s hs k W h)
  have L := Lib.hid (fun h0 h1 ht W h => lives_calls g s hs k now h0 h1 ht W h)
  have HA := Lib.hid hA
  unfold LS.seen LS.okSeen
  unfold getPtr at G
  cases hw : s.isW k with
  | false =>
    rw [hw] at G
    simp only [Bool.false_and, Bool.false_eq_true, if_false] at G ⊢
    clear hw hA
    go_enter Try.func16, Try.ntmps16
    go_wp2_with (go_at_call 22; refine (G.out _ HA.out).mono ?_; rintro e w' ⟨rfl, rfl⟩)
    go_ret
    exact ⟨rfl, HA.out, World.grownBy.refl _ _⟩
  | true =>
    rw [hw] at G
    have hb := isW_bd hs hw
    obtain ⟨b0, b1⟩ := hb
    have hc1 := blk_cell hA (2 + k.toNat * 3 + 1) (by omega)
    rw [encA_epoch] at hc1
    simp only [if_true, Bool.true_and] at G ⊢
    clear hw hA
    have T := Lib.hid (fun W => time_calls now W)
    cases h1 : s.epoch k.toNat == 0 with
    | true =>
      simp only [Bool.not_true, Bool.false_and, Bool.false_eq_true, if_false]
      go_enter Try.func16, Try.ntmps16
      go_wp2_with (go_at_call 22; refine (G.out _ HA.out).mono ?_; rintro e w' ⟨rfl, rfl⟩)
      go_ret
      exact ⟨rfl, HA.out, World.grownBy.refl _ _⟩
    | false =>
      cases h2 : s.epoch k.toNat == ep with
      | false =>
        have h2b : (s.epoch k.toNat != ep) = true := by rw [bne_iff_ne]; rw [beq_eq_false_iff_ne] at h2; exact h2
        simp only [Bool.and_false, Bool.false_and, Bool.false_eq_true, if_false]
        go_enter Try.func16, Try.ntmps16
        go_wp2_with (go_at_call 22; refine (G.out _ HA.out).mono ?_; rintro e w' ⟨rfl, rfl⟩)
        go_ret
        exact ⟨rfl, HA.out, World.grownBy.refl _ _⟩
      | true =>
        have h2b : (s.epoch k.toNat != ep) = false := by rw [bne_eq_false_iff_eq]; rw [beq_iff_eq] at h2; exact h2
        cases h3 : timeB now with
        | false =>
          rw [h3] at T
          simp only [Bool.and_false, Bool.false_eq_true, if_false]
          clear h2
          go_enter Try.func16, Try.ntmps16
          go_wp2_with (first | (go_at_call 22; refine (G.out _ HA.out).mono ?_; rintro e w' ⟨rfl, rfl⟩) | (go_at_call 23; refine (T.out _).mono ?_; rintro e w' ⟨rfl, rfl⟩))
          go_ret
          exact ⟨rfl, HA.out, World.grownBy.refl _ _⟩
        | true =>
          rw [h3] at T
          simp only [Bool.not_false, Bool.and_true, if_true]
          have HT := Lib.hid h3
          clear h2 h3
          go_enter Try.func16, Try.ntmps16
          go_wp2_with (first | (go_at_call 22; refine (G.out _ HA.out).mono ?_; rintro e w' ⟨rfl, rfl⟩) | (go_at_call 23; refine (T.out _).mono ?_; rintro e w' ⟨rfl, rfl⟩) | (go_at_call 24; refine (L.out b0 b1 HT.out _ HA.out).mono ?_; rintro e w' ⟨rfl, hA1, hg1⟩; have HA1 := Lib.hid hA1; have HG1 := Lib.hid hg1; clear hA1 hg1))
          go_ret
          exact ⟨rfl, HA1.out, HG1.out⟩
end Go.Proofs.Ytjebpccoddcnjaa
