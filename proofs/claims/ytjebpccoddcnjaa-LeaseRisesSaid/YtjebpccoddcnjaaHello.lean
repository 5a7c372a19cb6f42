/- The walks of lease's Hello and New, of the calls on no table, of Num and of awake. -/
import Derived.Test.YtjebpccoddcnjaaGet
namespace Go.Proofs.Ytjebpccoddcnjaa
open Go.RowKit
set_option linter.unusedVariables false
set_option linter.unusedSimpArgs false

theorem isA_born {w : World} {g : Nat} {s : LS} (h : IsA w g s) (k life : Int) :
    IsA ((w.setCell ⟨g, 2 + k.toNat * 3, none⟩ (.int .i64 life)).setCell ⟨g, 2 + k.toNat * 3 + 1, none⟩ (.int .i64 (s.epoch k.toNat + 1))) g (s.born k life) := by
  have h1 : IsA (w.setCell ⟨g, 2 + k.toNat * 3, none⟩ (.int .i64 life)) g { s with life := upd s.life k.toNat life } := blk_congr (blk_set h _ _) (fun j hj => setA_life s k.toNat _ j)
  exact blk_congr (blk_set h1 _ _) (fun j hj => setA_epoch _ k.toNat _ j)

set_option maxRecDepth 100000 in
set_option maxHeartbeats 4000000 in
theorem hello_calls (g : Nat) (s : LS) (hs : WF s) (k life now : Int) (w : World) (hA : IsA w g s) :
    Calls Try.prog 12 #[.pointer (some ⟨g, 0, none⟩), .int .i64 k, .int .i64 life, .int .i64 now] w fun e w' =>
      e = .returned (.tuple #[.int .i64 (s.hello k life now).2.1, .int .i64 (s.hello k life now).2.2]) ∧ IsA w' g (s.hello k life now).1 ∧ w.grownBy w' (some g) := by
  have G := Lib.hid (fun W h => get_calls g s hs k W h)
  have T := Lib.hid (fun W => time_calls now W)
  have HA := Lib.hid hA
  unfold getPtr at G
  unfold LS.hello LS.badHello
  cases hw : s.isW k with
  | false =>
    rw [hw] at G
    simp only [Bool.not_false, Bool.true_or, Bool.false_eq_true, if_false, if_true] at G ⊢
    clear hw hA
    go_enter Try.func12, Try.ntmps12
    go_wp2_with (go_at_call 22; refine (G.out _ HA.out).mono ?_; rintro e w' ⟨rfl, rfl⟩)
    go_ret2
    exact ⟨rfl, HA.out, World.grownBy.refl _ _⟩
  | true =>
  rw [hw] at G
  have hb := isW_bd hs hw
  obtain ⟨b0, b1⟩ := hb
  simp only [Bool.not_true, Bool.false_or, if_true] at G ⊢
  cases h1 : decide (life < 1) with
  | true =>
    simp only [Bool.true_or, if_true]
    clear hw hA
    go_enter Try.func12, Try.ntmps12
    go_wp2_with (go_at_call 22; refine (G.out _ HA.out).mono ?_; rintro e w' ⟨rfl, rfl⟩)
    go_ret2
    exact ⟨rfl, HA.out, World.grownBy.refl _ _⟩
  | false =>
  cases h2 : decide (2147483647 < life) with
  | true =>
    simp only [Bool.or_true, Bool.true_or, if_true]
    clear hw hA
    go_enter Try.func12, Try.ntmps12
    go_wp2_with (go_at_call 22; refine (G.out _ HA.out).mono ?_; rintro e w' ⟨rfl, rfl⟩)
    go_ret2
    exact ⟨rfl, HA.out, World.grownBy.refl _ _⟩
  | false =>
  cases h3 : timeB now with
  | false =>
    rw [h3] at T
    simp only [Bool.not_false, Bool.or_true, if_true]
    clear hw hA
    go_enter Try.func12, Try.ntmps12
    go_wp2_with (first | (go_at_call 22; refine (G.out _ HA.out).mono ?_; rintro e w' ⟨rfl, rfl⟩) | (go_at_call 23; refine (T.out _).mono ?_; rintro e w' ⟨rfl, rfl⟩))
    go_ret2
    exact ⟨rfl, HA.out, World.grownBy.refl _ _⟩
  | true =>
  rw [h3] at T
  simp only [Bool.not_true, Bool.or_false, Bool.false_eq_true, if_false]
  have HT := Lib.hid h3
  have hc0 := blk_cell hA (2 + k.toNat * 3) (by omega)
  have hc1 := blk_cell hA (2 + k.toNat * 3 + 1) (by omega)
  rw [encA_life] at hc0
  rw [encA_epoch] at hc1
  have e0 := hs.e0 k.toNat
  have e1 := hs.e1 k.toNat
  have l1 := hs.l1 k.toNat
  have hl1 : life ≤ 2147483647 := by simp at h2; omega
  have hl0 : 1 ≤ life := by simp at h1; omega
  clear h3 hw
  by_cases c1 : life < s.life k.toNat
  · have c1b : decide (life < s.life k.toNat) = true := decide_eq_true c1
    rw [if_pos c1]
    clear hA
    go_enter Try.func12, Try.ntmps12
    go_wp2_with (first | (go_at_call 22; refine (G.out _ HA.out).mono ?_; rintro e w' ⟨rfl, rfl⟩) | (go_at_call 23; refine (T.out _).mono ?_; rintro e w' ⟨rfl, rfl⟩))
    go_ret2
    exact ⟨rfl, HA.out, World.grownBy.refl _ _⟩
  · have c1b : decide (life < s.life k.toNat) = false := decide_eq_false c1
    rw [if_neg c1]
    by_cases c2 : s.life k.toNat < life
    · have c2b : decide (s.life k.toNat < life) = true := decide_eq_true c2
      rw [if_pos c2]
      have hf0 := blk_free hA (2 + k.toNat * 3)
      have hf1 := blk_free hA (2 + k.toNat * 3 + 1)
      have HB := Lib.hid (isA_born hA k life)
      have L := Lib.hid (fun W h => lives_calls g (s.born k life) (wf_born hs k life c2 hl1) k now b0 b1 HT.out W h)
      have hee : (s.born k life).epoch k.toNat = s.epoch k.toNat + 1 := upd_same _ _ _
      have HEE := Lib.hid hee
      clear hA hee
      go_enter Try.func12, Try.ntmps12
      go_wp2_with (first | (go_at_call 22; refine (G.out _ HA.out).mono ?_; rintro e w' ⟨rfl, rfl⟩) | (go_at_call 23; refine (T.out _).mono ?_; rintro e w' ⟨rfl, rfl⟩))
      refine (L.out _ HB.out).mono ?_
      rintro e w' ⟨rfl, hA1, hg1⟩
      have hc2 := blk_cell hA1 (2 + k.toNat * 3 + 1) (by omega)
      rw [encA_epoch, show ((s.born k life).ext k now).epoch k.toNat = s.epoch k.toNat + 1 from HEE.out] at hc2
      have HA1 := Lib.hid hA1
      have HG1 := Lib.hid hg1
      clear hA1 hg1 hc0 hc1 hf0 hf1
      go_wp2_with fail
      go_ret2
      exact ⟨rfl, HA1.out, grown_trans (grown_trans (grown_set0 _ _ _) (grown_set0 _ _ _)) HG1.out⟩
    · have c2b : decide (s.life k.toNat < life) = false := decide_eq_false c2
      rw [if_neg c2]
      have L := Lib.hid (fun W h => lives_calls g s hs k now b0 b1 HT.out W h)
      clear hA
      go_enter Try.func12, Try.ntmps12
      go_wp2_with (first | (go_at_call 22; refine (G.out _ HA.out).mono ?_; rintro e w' ⟨rfl, rfl⟩) | (go_at_call 23; refine (T.out _).mono ?_; rintro e w' ⟨rfl, rfl⟩))
      refine (L.out _ HA.out).mono ?_
      rintro e w' ⟨rfl, hA1, hg1⟩
      have hc2 := blk_cell hA1 (2 + k.toNat * 3 + 1) (by omega)
      rw [encA_epoch, show (s.ext k now).epoch k.toNat = s.epoch k.toNat from rfl] at hc2
      have HA1 := Lib.hid hA1
      have HG1 := Lib.hid hg1
      clear hA1 hg1 hc0 hc1
      go_wp2_with fail
      go_ret2
      exact ⟨rfl, HA1.out, HG1.out⟩

theorem range20 : Array.range 20 = #[0, 1, 2, 3, 4, 5, 6, 7, 8, 9, 10, 11, 12, 13, 14, 15, 16, 17, 18, 19] := by decide +kernel
theorem init_cells (n term : Int) : cellsOf 20 (LS.init n term).encA = #[.int .i64 n, .int .i64 term, .int .i64 0, .int .i64 0, .int .i64 0, .int .i64 0, .int .i64 0, .int .i64 0, .int .i64 0, .int .i64 0, .int .i64 0, .int .i64 0, .int .i64 0, .int .i64 0, .int .i64 0, .int .i64 0, .int .i64 0, .int .i64 0, .int .i64 0, .int .i64 0] := by
  unfold cellsOf
  rw [range20]
  simp [LS.encA, LS.init]

def okNew (n term : Int) : Bool := decide (1 ≤ n) && decide (n ≤ 5) && decide (1 ≤ term) && decide (term ≤ 1000)

set_option maxRecDepth 100000 in
set_option maxHeartbeats 2000000 in
theorem new_calls (n term : Int) (h : okNew n term = true) (w : World) :
    Calls Try.prog 10 #[.int .i64 n, .int .i64 term] w fun e w' => e = .returned (.tuple #[.pointer (some ⟨w.heap.size, 0, none⟩), .int .i64 0]) ∧ IsA w' w.heap.size (LS.init n term) ∧ Below w.heap.size w w' := by
  obtain ⟨⟨⟨h0, h1⟩, h2⟩, h3⟩ : ((1 ≤ n ∧ n ≤ 5) ∧ 1 ≤ term) ∧ term ≤ 1000 := by simpa [okNew] using h
  clear h
  go_enter Try.func10, Try.ntmps10
  go_wp2_with fail
  go_ret2
  refine ⟨rfl, ?_, (Below.refl _ _).alloc (Nat.le_refl _) _⟩
  unfold IsA Blk
  rw [init_cells]
  show (w.heap.push _)[w.heap.size]? = _
  simp

set_option maxRecDepth 100000 in
set_option maxHeartbeats 2000000 in
theorem new_bad (n term : Int) (h : okNew n term = false) (w : World) :
    Calls Try.prog 10 #[.int .i64 n, .int .i64 term] w fun e w' => e = .returned (.tuple #[.pointer none, .int .i64 2]) ∧ w = w' := by
  unfold okNew at h
  cases h0 : decide (n < 1) with
  | true =>
    clear h
    go_enter Try.func10, Try.ntmps10
    go_wp2_with fail
    go_ret2
    exact ⟨rfl, rfl⟩
  | false =>
  cases h1 : decide (5 < n) with
  | true =>
    clear h
    go_enter Try.func10, Try.ntmps10
    go_wp2_with fail
    go_ret2
    exact ⟨rfl, rfl⟩
  | false =>
  cases h2 : decide (term < 1) with
  | true =>
    clear h
    go_enter Try.func10, Try.ntmps10
    go_wp2_with fail
    go_ret2
    exact ⟨rfl, rfl⟩
  | false =>
  have h3 : decide (1000 < term) = true := by
    simp only [decide_eq_false_iff_not] at h0 h1 h2
    rw [decide_eq_true (by omega : 1 ≤ n), decide_eq_true (by omega : n ≤ 5), decide_eq_true (by omega : 1 ≤ term)] at h
    simp at h
    rw [decide_eq_true_eq]; omega
  clear h
  go_enter Try.func10, Try.ntmps10
  go_wp2_with fail
  go_ret2
  exact ⟨rfl, rfl⟩

theorem num_calls (x : Int) (w : World) : Calls Try.prog 18 #[.int .i64 x] w fun e w' => e = .returned (.int .i64 x) ∧ w = w' := by
  go_enter Try.func18, Try.ntmps18
  go_wp2_with fail
  go_ret
  exact ⟨rfl, rfl⟩

/-! ### No table -/
theorem hello_nil (k life now : Int) (w : World) :
    Calls Try.prog 12 #[.pointer none, .int .i64 k, .int .i64 life, .int .i64 now] w fun e w' => e = .returned (.tuple #[.int .i64 0, .int .i64 1]) ∧ w = w' := by
  go_enter Try.func12, Try.ntmps12
  go_wp2_with (go_at_call 22; refine (get_nil k _).mono ?_; rintro e w' ⟨rfl, rfl⟩)
  go_ret2
  exact ⟨rfl, rfl⟩
theorem seen_nil (k ep now : Int) (w : World) :
    Calls Try.prog 16 #[.pointer none, .int .i64 k, .int .i64 ep, .int .i64 now] w fun e w' => e = .returned (.bool false) ∧ w = w' := by
  go_enter Try.func16, Try.ntmps16
  go_wp2_with (go_at_call 22; refine (get_nil k _).mono ?_; rintro e w' ⟨rfl, rfl⟩)
  go_ret
  exact ⟨rfl, rfl⟩
theorem live_nil (k now : Int) (w : World) :
    Calls Try.prog 15 #[.pointer none, .int .i64 k, .int .i64 now] w fun e w' => e = .returned (.bool false) ∧ w = w' := by
  go_enter Try.func15, Try.ntmps15
  go_wp2_with (go_at_call 22; refine (get_nil k _).mono ?_; rintro e w' ⟨rfl, rfl⟩)
  go_ret
  exact ⟨rfl, rfl⟩
theorem epoch_nil (k : Int) (w : World) :
    Calls Try.prog 13 #[.pointer none, .int .i64 k] w fun e w' => e = .returned (.int .i64 0) ∧ w = w' := by
  go_enter Try.func13, Try.ntmps13
  go_wp2_with (go_at_call 22; refine (get_nil k _).mono ?_; rintro e w' ⟨rfl, rfl⟩)
  go_ret
  exact ⟨rfl, rfl⟩
theorem life_nil (k : Int) (w : World) :
    Calls Try.prog 14 #[.pointer none, .int .i64 k] w fun e w' => e = .returned (.int .i64 0) ∧ w = w' := by
  go_enter Try.func14, Try.ntmps14
  go_wp2_with (go_at_call 22; refine (get_nil k _).mono ?_; rintro e w' ⟨rfl, rfl⟩)
  go_ret
  exact ⟨rfl, rfl⟩

/-! ### awake -/
def s0 : LS := LS.init 2 5
def s1 : LS := (s0.hello 1 1 0).1
def s2 : LS := (s1.hello 1 2 6).1
def s3 : LS := (s2.hello 1 1 7).1
theorem wf0 : WF s0 := wf_init 2 5 (by omega) (by omega) (by omega) (by omega)
theorem wf1 : WF s1 := wf_hello wf0 _ _ _
theorem wf2 : WF s2 := wf_hello wf1 _ _ _
theorem wf3 : WF s3 := wf_hello wf2 _ _ _
theorem aw1 : (s0.hello 1 1 0).2 = (1, 0) := by decide +kernel
theorem aw2 : (s1.hello 1 2 6).2 = (2, 0) := by decide +kernel
theorem aw3 : (s2.hello 1 1 7).2 = (0, 4) := by decide +kernel
theorem aw4 : s3.live 1 11 = true := by decide +kernel
theorem aw5 : s3.live 1 12 = false := by decide +kernel

set_option maxRecDepth 100000 in
set_option maxHeartbeats 2000000 in
theorem awake_calls (w : World) : Calls Try.prog 9 #[] w fun e w' => e = .returned (.bool true) ∧ Below w.heap.size w w' := by
  go_enter Try.func9, Try.ntmps9
  go_wp2_with fail
  refine (new_calls 2 5 (by decide) _).mono ?_
  rintro e w1 ⟨rfl, hA, hb⟩
  have HA1 : Hid (IsA w1 w.heap.size s0) := hA
  have HB1 := Lib.hid hb
  clear hA hb
  go_wp2_with fail
  refine (hello_calls _ s0 wf0 1 1 0 _ HA1.out).mono ?_
  rw [aw1]
  rintro e w2 ⟨rfl, hA, hg⟩
  have HA2 : Hid (IsA w2 w.heap.size s1) := hA
  have HG2 := Lib.hid hg
  clear hA hg
  go_wp2_with fail
  refine (hello_calls _ s1 wf1 1 2 6 _ HA2.out).mono ?_
  rw [aw2]
  rintro e w3 ⟨rfl, hA, hg⟩
  have HA3 : Hid (IsA w3 w.heap.size s2) := hA
  have HG3 := Lib.hid hg
  clear hA hg
  go_wp2_with fail
  refine (hello_calls _ s2 wf2 1 1 7 _ HA3.out).mono ?_
  rw [aw3]
  rintro e w4 ⟨rfl, hA, hg⟩
  have HA4 : Hid (IsA w4 w.heap.size s3) := hA
  have HG4 := Lib.hid hg
  clear hA hg
  go_wp2_with fail
  refine (live_calls _ s3 wf3 1 11 _ HA4.out).mono ?_
  rw [aw4]
  rintro e w' ⟨rfl, rfl⟩
  go_wp2_with fail
  refine (live_calls _ s3 wf3 1 12 _ HA4.out).mono ?_
  rw [aw5]
  rintro e w' ⟨rfl, rfl⟩
  go_wp2_with fail
  go_ret
  exact ⟨rfl, HB1.out.grown (grown_trans (grown_trans HG2.out HG3.out) HG4.out) HB1.out.size (fun k hk => by injection hk with hk; omega)⟩
end Go.Proofs.Ytjebpccoddcnjaa
