/- Low; the walk of LeaseCounts. -/
import Derived.Test.YtjebpccoddcnjaaHello
import Derived.Test.YtjebpccoddcnjaaPLeaseCountsx1
namespace Go.Proofs.Ytjebpccoddcnjaa
open Go.RowKit Go.Proofs.YtjebpccoddcnjaaW.PrintWords Go.Proofs.YtjebpccoddcnjaaW.PrintLast
set_option linter.unusedVariables false
set_option linter.unusedSimpArgs false

theorem low_some (x n : Int) (h1 : 1 ≤ n) (h2 : n ≤ 1000000) : ∃ r, PLeaseCounts.inkhornlaw0_Low.f x n = some r ∧ 0 ≤ r ∧ r < n := by
  unfold PLeaseCounts.inkhornlaw0_Low.f
  have e : IntKind.u64.wrap n = n := by
    unfold IntKind.wrap
    simp [IntKind.bits, IntKind.signed]
    omega
  have e2 : 0 ≤ IntKind.u64.wrap x := by
    unfold IntKind.wrap
    simp [IntKind.bits, IntKind.signed]
    omega
  rw [e, if_neg (by omega)]
  generalize IntKind.u64.wrap x = u at *
  have hm := Int.tmod_eq_emod_of_nonneg e2 (b := n)
  rw [hm]
  have h3 := Int.emod_nonneg u (by omega : n ≠ 0)
  have h4 := Int.emod_lt_of_pos u (by omega : 0 < n)
  have hw : wrap64 (u % n) = u % n := by unfold wrap64; omega
  exact ⟨_, rfl, by rw [hw]; exact h3, by rw [hw]; exact h4⟩
theorem low_calls (x n : Int) (h1 : 1 ≤ n) (h2 : n ≤ 1000000) : ∃ r : Int, (0 ≤ r ∧ r < n) ∧ ∀ w, Calls Try.prog 11 #[.int .i64 x, .int .i64 n] w fun e w' => e = .returned (.int .i64 r) ∧ Drawn0 w w' := by
  obtain ⟨r, h, h3, h4⟩ := low_some x n h1 h2
  exact ⟨r, ⟨h3, h4⟩, fun w => PLeaseCounts.inkhornlaw0_Low.calls x n r w h⟩

/-! ### The plain law of LeaseCounts -/
structure J (s : LS) (n most : Int) : Prop where
  wf : WF s
  n5 : s.n = 5
  lf : s.life 4 = most
  ep : s.epoch 4 = n
  e5 : s.epoch 5 = 0
  m0 : 0 ≤ most
  m1 : most ≤ 20
theorem J_init : J (LS.init 5 9) 0 0 := ⟨wf_init 5 9 (by omega) (by omega) (by omega) (by omega), rfl, rfl, rfl, rfl, by omega, by omega⟩
theorem J_good {s : LS} {n most : Int} (h : J s n most) (f now : Int) (f0 : 1 ≤ f) (f1 : f ≤ 20) (t0 : 0 ≤ now) (t1 : now ≤ 2000) : s.badHello 4 f now = false := by
  unfold LS.badHello LS.isW timeB
  rw [h.n5]
  simp
  omega
theorem J_less {s : LS} {n most : Int} (h : J s n most) (f now : Int) (f0 : 1 ≤ f) (f1 : f ≤ 20) (t0 : 0 ≤ now) (t1 : now ≤ 2000) (hf : f < most) : s.hello 4 f now = (s, 0, 4) := by
  unfold LS.hello
  rw [J_good h f now f0 f1 t0 t1]
  have e4 : (4 : Int).toNat = 4 := rfl
  rw [e4, h.lf, if_neg (by simp), if_pos hf]
theorem J_more {s : LS} {n most : Int} (h : J s n most) (f now : Int) (f0 : 1 ≤ f) (f1 : f ≤ 20) (t0 : 0 ≤ now) (t1 : now ≤ 2000) (hf : most < f) :
    ∃ s', s.hello 4 f now = (s', n + 1, 0) ∧ J s' (n + 1) f := by
  have hw := wf_hello h.wf 4 f now
  unfold LS.hello at hw ⊢
  rw [J_good h f now f0 f1 t0 t1] at hw ⊢
  have e4 : (4 : Int).toNat = 4 := rfl
  have a : ¬ f < s.life (4 : Int).toNat := by rw [e4, h.lf]; omega
  have b : s.life (4 : Int).toNat < f := by rw [e4, h.lf]; exact hf
  simp only [Bool.false_eq_true, if_false, a, b, if_true] at hw ⊢
  refine ⟨_, by rw [e4, h.ep], hw, h.n5, ?_, ?_, ?_, by omega, f1⟩
  · show upd s.life 4 f 4 = _
    exact upd_same _ _ _
  · show upd s.epoch 4 (s.epoch 4 + 1) 4 = _
    rw [upd_same, h.ep]
  · show upd s.epoch 4 (s.epoch 4 + 1) 5 = _
    rw [upd_other _ _ _ _ (by omega)]; exact h.e5
theorem J_same {s : LS} {n most : Int} (h : J s n most) (f now : Int) (f0 : 1 ≤ f) (f1 : f ≤ 20) (t0 : 0 ≤ now) (t1 : now ≤ 2000) (hf : f = most) :
    ∃ s', s.hello 4 f now = (s', n, 0) ∧ J s' n most := by
  have hw := wf_hello h.wf 4 f now
  unfold LS.hello at hw ⊢
  rw [J_good h f now f0 f1 t0 t1] at hw ⊢
  have e4 : (4 : Int).toNat = 4 := rfl
  have a : ¬ f < s.life (4 : Int).toNat := by rw [e4, h.lf]; omega
  have b : ¬ s.life (4 : Int).toNat < f := by rw [e4, h.lf]; omega
  simp only [Bool.false_eq_true, if_false, a, b] at hw ⊢
  exact ⟨_, by rw [e4, h.ep], hw, h.n5, h.lf, h.ep, h.e5, h.m0, h.m1⟩
theorem J_end {s : LS} {n most : Int} (h : J s n most) : s.epochOf 4 = n ∧ s.lifeOf 4 = most ∧ s.epochOf 5 = 0 := by
  unfold LS.epochOf LS.lifeOf LS.isW
  rw [h.n5]
  exact ⟨h.ep, h.lf, h.e5⟩

/-- A row that came in: its numbers up to its capacity. -/
def RowIn (k : IntKind) (w : World) (a : Option Addr) (len cap : Nat) (zs : List Int) : Prop :=
  (a = none ∧ len = 0 ∧ cap = 0 ∧ zs = []) ∨
  ∃ x, a = some x ∧ len ≤ cap ∧ cap ≤ maxLen ∧ zs.length = cap ∧ (∀ i, i < zs.length → w.cell? (x.add i) = some (.int k (zs.getD i 0))) ∧ ∀ n ∈ zs, (Lit.int k n).wf = true
/-- m cells behind an address read as f says. -/
def Rd (w : World) (A : Option Addr) (m : Nat) (f : Nat → Value) : Prop := ∀ k, k < m → ∃ ad, A = some ad ∧ w.cell? (ad.add k) = some (f k)
theorem rd_below {w w1 : World} {A : Option Addr} {m : Nat} {f : Nat → Value} (h : Rd w A m f) (hb : Below w.heap.size w w1) : Rd w1 A m f := by
  intro k hk
  obtain ⟨ad, e, hc⟩ := h k hk
  refine ⟨ad, e, ?_⟩
  rw [hb.cell]
  · exact hc
  · unfold World.cell? at hc
    by_cases hl : (ad.add k).block < w.heap.size
    · exact hl
    · rw [Array.getElem?_eq_none (by omega)] at hc
      simp at hc
theorem rd_row {k : IntKind} {w : World} {a : Option Addr} {len cap : Nat} {zs : List Int} (h : RowIn k w a len cap zs) : Rd w a len (fun j => .int k (zs.getD j 0)) := by
  rcases h with ⟨rfl, rfl, _, _⟩ | ⟨x, rfl, hl, _, hz, hc, _⟩
  · intro j hj; omega
  · intro j hj
    exact ⟨x, rfl, hc j (by omega)⟩
theorem rd_cell {w : World} {A : Option Addr} {m : Nat} {f : Nat → Value} (h : Rd w A m f) (k : Nat) (hk : k < m) : ∃ ad, A = some ad ∧ w.cell? (ad.add k) = some (f k) := h k hk
theorem below_grown {w wr w2 : World} {g : Nat} (h : Below w.heap.size w wr) (hg : wr.grownBy w2 (some g)) (hB : w.heap.size ≤ g) : Below w.heap.size w w2 :=
  h.grown hg h.size (fun k hk => by injection hk with hk; omega)
theorem drewN_below {B : Nat} {w w' : World} (h : Drawn0 w w') : ∃ n, w' = w.drewN n := h.out
theorem isA_below {w w1 : World} {g : Nat} {s : LS} (h : IsA w g s) (hb : Below w.heap.size w w1) : IsA w1 g s := blk_keep h (hb.block g (blk_lt h))
theorem isA_drewN {w : World} {g : Nat} {s : LS} (h : IsA w g s) (n : Nat) : IsA (w.drewN n) g s := h

theorem counts_awake (A : Option Addr) (len c : Nat) (now : Int) (hlt : (60 : Int) < len) (hb : len ≤ 9223372036854775807) (w : World) :
    Calls Try.prog 3 #[.slice A len c, .int .i64 now] w fun e w' => e = .returned (.bool true) ∧ Below w.heap.size w w' := by
  have hltb : decide ((60 : Int) < len) = true := decide_eq_true hlt
  go_enter Try.func3, Try.ntmps3
  go_wp2_with (go_at_call 9; refine (awake_calls _).mono ?_; rintro e w' ⟨rfl, hb1⟩; have HB := Lib.hid hb1; clear hb1)
  go_ret
  exact ⟨rfl, HB.out⟩

set_option maxRecDepth 100000 in
set_option maxHeartbeats 4000000 in
theorem counts_go (A : Option Addr) (len c : Nat) (f : Nat → Int) (now : Int) (hl : len ≤ 60) (hc : len ≤ c) (w : World) (h : Rd w A len (fun j => .int .i64 (f j))) :
    Calls Try.prog 3 #[.slice A len c, .int .i64 now] w fun e w' => e = .returned (.bool true) ∧ Below w.heap.size w w' := by
  have hltb : decide ((60 : Int) < len) = false := decide_eq_false (by omega)
  obtain ⟨t, ⟨t0, t1⟩, LT⟩ := low_calls now 1000 (by omega) (by omega)
  have HLT := Lib.hid LT
  have HX := Lib.hid h
  clear LT h
  go_enter Try.func3, Try.ntmps3
  go_wp2_with fail
  refine (new_calls 5 9 (by decide) _).mono ?_
  rintro e w1 ⟨rfl, hA, hb⟩
  have HA : Hid (IsA w1 w.heap.size (LS.init 5 9)) := hA
  have HB := Lib.hid hb
  clear hA hb
  go_wp2_with fail
  go_loopw [7, 8, 9] (fun vn vm vi wr => ∃ (s : LS) (n m i : Int), vn = .int .i64 n ∧ vm = .int .i64 m ∧ vi = .int .i64 i ∧ 0 ≤ i ∧ i ≤ len ∧ 0 ≤ n ∧ n ≤ i ∧ Hid (J s n m) ∧ Hid (IsA wr w.heap.size s) ∧ Hid (Below w.heap.size w wr)) (fun _ _ vi wr => len - (intOf vi).toNat)
  case atStart => exact ⟨LS.init 5 9, 0, 0, 0, rfl, rfl, rfl, by omega, by omega, by omega, by omega, J_init, HA.out, HB.out⟩
  case round =>
    obtain ⟨s, n, m, i, rfl, rfl, rfl, hi0, hi1, hn0, hn1, HJ, HS, HW⟩ := hrel
    by_cases hlt : i < len
    · have hltc : decide (i < (len : Int)) = true := decide_eq_true hlt
      obtain ⟨ad, rfl, hcell⟩ := rd_cell (rd_below HX.out HW.out) i.toNat (by omega)
      generalize f i.toNat = x at hcell
      obtain ⟨y, ⟨y0, y1⟩, LY⟩ := low_calls x 20 (by omega) (by omega)
      have HLY := Lib.hid LY
      have HH := Lib.hid (fun W => hello_calls w.heap.size s HJ.out.wf 4 (1 + y) (t + i) W)
      clear LY
      rcases Int.lt_trichotomy (1 + y) m with hc1 | hc1 | hc1
      · have hc1b : decide (m < 1 + y) = false := decide_eq_false (by omega)
        have hc1c : decide (1 + y < m) = true := decide_eq_true hc1
        rw [J_less HJ.out (1 + y) (t + i) (by omega) (by omega) (by omega) (by omega) hc1] at HH
        go_wp2_with fail
        refine (HLY.out _).mono ?_
        rintro e w2 ⟨rfl, ⟨⟨n1, rfl⟩⟩⟩
        go_wp2_with fail
        refine (HLT.out _).mono ?_
        rintro e w2 ⟨rfl, ⟨⟨n2, rfl⟩⟩⟩
        go_wp2_with fail
        refine (HH.out _ (isA_drewN HS.out _)).mono ?_
        rintro e w2 ⟨rfl, hA2, hG2⟩
        have HA2 := Lib.hid hA2
        have HG2 := Lib.hid hG2
        clear hA2 hG2
        go_wp2_with fail
        go_roundw
        case rel => exact ⟨s, n, m, i + 1, rfl, by go_num, rfl, by omega, by omega, by omega, by omega, HJ.out, HA2.out, below_grown (pw_below_drewN HW.out _) HG2.out (Nat.le_refl _)⟩
        case measure => simp [intOf]; omega
      · have hc1b : decide (m < 1 + y) = false := decide_eq_false (by omega)
        have hc1c : decide (1 + y < m) = false := decide_eq_false (by omega)
        have hmx : max m (1 + y) = m := by omega
        obtain ⟨s', e, hJ'⟩ := J_same HJ.out (1 + y) (t + i) (by omega) (by omega) (by omega) (by omega) hc1
        have HJ' := Lib.hid hJ'
        rw [e] at HH
        clear e hJ' hc1
        go_wp2_with fail
        refine (HLY.out _).mono ?_
        rintro e w2 ⟨rfl, ⟨⟨n1, rfl⟩⟩⟩
        go_wp2_with fail
        refine (HLT.out _).mono ?_
        rintro e w2 ⟨rfl, ⟨⟨n2, rfl⟩⟩⟩
        go_wp2_with fail
        refine (HH.out _ (isA_drewN HS.out _)).mono ?_
        rintro e w2 ⟨rfl, hA2, hG2⟩
        have HA2 := Lib.hid hA2
        have HG2 := Lib.hid hG2
        clear hA2 hG2
        go_wp2_with fail
        go_roundw
        case rel => exact ⟨s', n, m, i + 1, rfl, by go_num, rfl, by omega, by omega, by omega, by omega, HJ'.out, HA2.out, below_grown (pw_below_drewN HW.out _) HG2.out (Nat.le_refl _)⟩
        case measure => simp [intOf]; omega
      · have hc1b : decide (m < 1 + y) = true := decide_eq_true (by omega)
        have hc1c : decide (1 + y < m) = false := decide_eq_false (by omega)
        have hmx : max m (1 + y) = 1 + y := by omega
        obtain ⟨s', e, hJ'⟩ := J_more HJ.out (1 + y) (t + i) (by omega) (by omega) (by omega) (by omega) hc1
        have HJ' := Lib.hid hJ'
        rw [e] at HH
        clear e hJ' hc1
        go_wp2_with fail
        refine (HLY.out _).mono ?_
        rintro e w2 ⟨rfl, ⟨⟨n1, rfl⟩⟩⟩
        go_wp2_with fail
        refine (HLT.out _).mono ?_
        rintro e w2 ⟨rfl, ⟨⟨n2, rfl⟩⟩⟩
        go_wp2_with fail
        refine (HH.out _ (isA_drewN HS.out _)).mono ?_
        rintro e w2 ⟨rfl, hA2, hG2⟩
        have HA2 := Lib.hid hA2
        have HG2 := Lib.hid hG2
        clear hA2 hG2
        go_wp2_with fail
        go_roundw
        case rel => exact ⟨s', n + 1, 1 + y, i + 1, rfl, by go_num, rfl, by omega, by omega, by omega, by omega, HJ'.out, HA2.out, below_grown (pw_below_drewN HW.out _) HG2.out (Nat.le_refl _)⟩
        case measure => simp [intOf]; omega
    · have hltc : decide (i < (len : Int)) = false := decide_eq_false hlt
      obtain ⟨e1, e2, e3⟩ := J_end HJ.out
      have E4 := epoch_calls w.heap.size s HJ.out.wf 4
      have L4 := life_calls w.heap.size s HJ.out.wf 4
      have E5 := epoch_calls w.heap.size s HJ.out.wf 5
      rw [e1] at E4
      rw [e2] at L4
      rw [e3] at E5
      have HE4 := Lib.hid E4
      have HL4 := Lib.hid L4
      have HE5 := Lib.hid E5
      clear e1 e2 e3 E4 L4 E5
      go_wp2_with fail
      refine (HE4.out _ HS.out).mono ?_
      rintro e w' ⟨rfl, rfl⟩
      go_wp2_with fail
      refine (HL4.out _ HS.out).mono ?_
      rintro e w' ⟨rfl, rfl⟩
      go_wp2_with fail
      refine (HE5.out _ HS.out).mono ?_
      rintro e w' ⟨rfl, rfl⟩
      go_wp2_with fail
      refine (awake_calls _).mono ?_
      rintro e w3 ⟨rfl, hb3⟩
      have HB3 := Lib.hid hb3
      clear hb3
      go_wp2_with fail
      go_ret
      exact ⟨by simp, below_step HW.out HB3.out⟩

theorem counts_walk (A : Option Addr) (len c : Nat) (zs : List Int) (now : Int) (w : World) (h : RowIn .i64 w A len c zs) (hy : len * 8 ≤ 140737488351232) (hn : (Lit.int .i64 now).wf = true) :
    Calls Try.prog 3 #[.slice A len c, .int .i64 now] w fun e w' => e = .returned (.bool true) ∧ Below w.heap.size w w' := by
  by_cases hlt : (60 : Int) < len
  · exact counts_awake A len c now hlt (by omega) w
  · have hr := rd_row h
    refine counts_go A len c (fun j => zs.getD j 0) now (by omega) ?_ w hr
    rcases h with ⟨_, h1, h2, _⟩ | ⟨x, h1, h2, _⟩
    · omega
    · exact h2
end Go.Proofs.Ytjebpccoddcnjaa
