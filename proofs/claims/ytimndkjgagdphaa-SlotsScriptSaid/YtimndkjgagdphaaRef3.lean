/- The reference's Slots: where they lie; the walks of New, May, Of, Count, Free, Submit. -/
import Derived.Test.YtimndkjgagdphaaActs
import Derived.Test.YtimndkjgagdphaaRef2
namespace Go.Proofs.Ytimndkjgagdphaa
open Go.RowKit Go.Proofs.YtimndkjgagdphaaW.PrintWords Go.Proofs.YtimndkjgagdphaaW.PrintLast
set_option linter.unusedVariables false
set_option linter.unusedSimpArgs false

/-- The reference's state: block r the struct, block r - 1 its row. -/
structure IsR (w : World) (r : Nat) (s : SS) : Prop where
  wf : WFs s
  st : w.heap[r + 1]? = some (.cells #[.slice (some ⟨r, 0, none⟩) s.most.toNat s.most.toNat, .int .i64 s.last] 50 (0, 0))
  lt : r < w.heap.size
  row : ∀ k : Nat, (k : Int) < s.most → w.cell? ⟨r, k, none⟩ = some (.int .i64 (s.who k))
  fr : ∀ k : Nat, w.frozen? ⟨r, k, none⟩ = false
theorem isR_lt {w : World} {r : Nat} {s : SS} (h : IsR w r s) : r + 1 < w.heap.size := lt_of_block h.st
theorem isR_keep {w w1 : World} {r : Nat} {s : SS} (h : IsR w r s) (h0 : w1.heap[r]? = w.heap[r]?) (h1 : w1.heap[r + 1]? = w.heap[r + 1]?) (hs : w.heap.size ≤ w1.heap.size) : IsR w1 r s := by
  refine ⟨h.wf, h1.trans h.st, Nat.lt_of_lt_of_le h.lt hs, fun k hk => ?_, fun k => ?_⟩
  · rw [← h.row k hk]; simp [World.cell?, h0]
  · rw [← h.fr k]; simp [World.frozen?, h0]
theorem isR_below {w w1 : World} {r : Nat} {s : SS} (h : IsR w r s) (hb : Below w.heap.size w w1) : IsR w1 r s :=
  isR_keep h (hb.block _ h.lt) (hb.block _ (isR_lt h)) hb.size
theorem isR_chg {w w1 : World} {r lo hi : Nat} {s : SS} (h : IsR w r s) (hb : Chg lo hi w w1) (hd : r + 2 ≤ lo ∨ hi ≤ r) : IsR w1 r s := by
  have := isR_lt h
  exact isR_keep h (hb.block _ (by omega) (by omega)) (hb.block _ this (by omega)) hb.size
theorem isR_drew {w : World} {r : Nat} {s : SS} (h : IsR w r s) : IsR w.drew r s := isR_keep h rfl rfl (Nat.le_refl _)
theorem isR_drewN {w : World} {r : Nat} {s : SS} (h : IsR w r s) (n : Nat) : IsR (w.drewN n) r s := isR_keep h rfl rfl (Nat.le_refl _)
theorem isR_cells {w : World} {r : Nat} {s : SS} (h : IsR w r s) :
    w.cell? ⟨r + 1, 0, none⟩ = some (.slice (some ⟨r, 0, none⟩) s.most.toNat s.most.toNat) ∧ w.cell? ⟨r + 1, 1, none⟩ = some (.int .i64 s.last) ∧ w.frozen? ⟨r + 1, 1, none⟩ = false := by
  have := h.st
  refine ⟨?_, ?_, ?_⟩
  · simp [World.cell?, this]
  · simp [World.cell?, this]
  · simp [World.frozen?, this]
theorem who_pos {s : SS} (h : WFs s) {k : Int} (hk : s.who k ≠ 0) : 1 ≤ s.who k := (h.wh k hk).2.2.1

theorem mk_new (n : Int) (h0 : 1 ≤ n) (h1 : n ≤ 4) : ∃ cs : Array Value, (∀ w, (Instr.makeSlice 41 (.int .i64 n) (.int .i64 n)).run Try.prog w = .ok (.slice (some ⟨w.heap.size, 0, none⟩) n.toNat n.toNat) (w.alloc (.cells cs 3 (0, 0)))) ∧ cs = Array.replicate n.toNat (.int .i64 0) := by
  have : n = 1 ∨ n = 2 ∨ n = 3 ∨ n = 4 := by omega
  rcases this with rfl | rfl | rfl | rfl
  · exact ⟨#[.int .i64 0], fun w => by kernel_rfl, rfl⟩
  · exact ⟨#[.int .i64 0, .int .i64 0], fun w => by kernel_rfl, rfl⟩
  · exact ⟨#[.int .i64 0, .int .i64 0, .int .i64 0], fun w => by kernel_rfl, rfl⟩
  · exact ⟨#[.int .i64 0, .int .i64 0, .int .i64 0, .int .i64 0], fun w => by kernel_rfl, rfl⟩

set_option maxRecDepth 100000 in
theorem rnew_calls (n : Int) (h0 : 1 ≤ n) (h1 : n ≤ 4) (w : World) :
    Calls Try.prog 15 #[.int .i64 n] w fun e w' => ∃ r, e = .returned (.tuple #[.pointer (some ⟨r + 1, 0, none⟩), .int .i64 0]) ∧ w.heap.size ≤ r ∧ IsR w' r (SS.init n) ∧ Below w.heap.size w w' := by
  obtain ⟨cs, hmk, hcs⟩ := mk_new n h0 h1
  have HCS := Lib.hid hcs
  clear hcs
  go_enter Try.func15, Try.ntmps15
  go_wp2_with fail
  go_ret2
  have s1 := alloc_size w (.cells cs 3 (0, 0))
  refine ⟨w.heap.size, rfl, Nat.le_refl _, ⟨wfs_init n h0 h1, ?_, ?_, ?_, ?_⟩, below_step0 (below_al _ _) (below_al _ _)⟩
  · rw [← s1]; exact new_block _ _
  · rw [alloc_size]; omega
  · intro k hk
    have e : ((w.alloc (.cells cs 3 (0, 0))).alloc (.cells #[.slice (some ⟨w.heap.size, 0, none⟩) n.toNat n.toNat, .int .i64 0] 50 (0, 0))).heap[w.heap.size]? = some (.cells cs 3 (0, 0)) := (old_block _ _ _ (by omega)).trans (new_block _ _)
    have hk' : k < n.toNat := by have : (k : Int) < n := hk; omega
    have e2 : ((w.alloc (.cells cs 3 (0, 0))).alloc (.cells #[.slice (some ⟨w.heap.size, 0, none⟩) n.toNat n.toNat, .int .i64 0] 50 (0, 0))).cell? ⟨w.heap.size, k, none⟩ = cs[k]? := by simp [World.cell?, e]
    exact e2.trans (by rw [HCS.out, Array.getElem?_replicate, if_pos hk']; rfl)
  · intro k
    have e : ((w.alloc (.cells cs 3 (0, 0))).alloc (.cells #[.slice (some ⟨w.heap.size, 0, none⟩) n.toNat n.toNat, .int .i64 0] 50 (0, 0))).heap[w.heap.size]? = some (.cells cs 3 (0, 0)) := (old_block _ _ _ (by omega)).trans (new_block _ _)
    have e2 : ((w.alloc (.cells cs 3 (0, 0))).alloc (.cells #[.slice (some ⟨w.heap.size, 0, none⟩) n.toNat n.toNat, .int .i64 0] 50 (0, 0))).frozen? ⟨w.heap.size, k, none⟩ = false := by simp [World.frozen?, e]
    exact e2
set_option maxRecDepth 100000 in
theorem rnew_bad (n : Int) (h : ¬ (1 ≤ n ∧ n ≤ 4)) (w : World) :
    Calls Try.prog 15 #[.int .i64 n] w fun e w' => e = .returned (.tuple #[.pointer none, .int .i64 2]) ∧ w = w' := by
  by_cases h0 : n < 1
  · have h0b : decide (n < 1) = true := decide_eq_true h0
    go_enter Try.func15, Try.ntmps15
    go_wp2_with fail
    go_ret2
    exact ⟨rfl, rfl⟩
  · have h0b : decide (n < 1) = false := decide_eq_false h0
    have h1b : decide (4 < n) = true := decide_eq_true (by omega)
    clear h h0
    go_enter Try.func15, Try.ntmps15
    go_wp2_with fail
    go_ret2
    exact ⟨rfl, rfl⟩

theorem rmay_calls (q : ByteArray) (k n : Int) (w : World) (hq : q.size ≤ 1048576) :
    Calls Try.prog 25 #[.agg #[.string q, .int .i64 k, .int .i64 n]] w fun e w' => e = .returned (.bool (mayB q k n)) ∧ Below w.heap.size w w' := by
  refine PSlotsScript.inkhornref10_May.calls (q.size + 3) q k n (mayB q k n) w ?_
  unfold PSlotsScript.inkhornref10_May.f mayB
  rw [ref_asked q hq _ (Nat.le_refl _), Option.bind_some]
  cases askedB q with
  | false => rfl
  | true =>
    rw [if_pos rfl]
    by_cases h1 : k ≥ 0
    · rw [if_pos h1, decide_eq_true (p := 0 ≤ k) h1]
      by_cases h2 : k ≤ 4
      · rw [if_pos h2, decide_eq_true h2]
        by_cases h3 : n ≥ 1
        · rw [if_pos h3, decide_eq_true (p := 1 ≤ n) h3]; rfl
        · rw [if_neg h3, decide_eq_false (p := 1 ≤ n) h3]; rfl
      · rw [if_neg h2, decide_eq_false h2]; rfl
    · rw [if_neg h1, decide_eq_false (p := 0 ≤ k) h1]; rfl

theorem find_none {s : SS} (h : WFs s) {id : Int} (hn : ∀ j : Int, 0 ≤ j → j < s.most → s.who j ≠ id) : s.find id = none := by
  cases hf : s.find id with
  | none => rfl
  | some k =>
    obtain ⟨h1, h2⟩ := (find_iff h id k).1 hf
    have := h.wh k (by rw [h2]; exact h1)
    exact absurd h2 (hn k this.1 this.2.1)

set_option maxRecDepth 100000 in
set_option maxHeartbeats 2000000 in
theorem rof_calls (r : Nat) (s : SS) (id : Int) (w : World) (hR : IsR w r s) :
    Calls Try.prog 20 #[.pointer (some ⟨r + 1, 0, none⟩), .int .i64 id] w fun e w' => e = .returned (.tuple #[.int .i64 ((s.find id).getD 0), .bool (s.find id).isSome]) ∧ w = w' := by
  obtain ⟨c0, c1, f1⟩ := isR_cells hR
  have HR := Lib.hid hR
  have m0 := hR.wf.m0
  have m1 := hR.wf.m1
  obtain ⟨m, hm⟩ : ∃ m : Nat, m = s.most.toNat := ⟨_, rfl⟩
  have HM : Hid ((m : Int) = s.most) := by show (m : Int) = s.most; omega
  have m2 : m ≤ 4 := by omega
  have m3 : 1 ≤ m := by omega
  rw [← hm] at c0
  clear hR hm m0 m1
  by_cases hid : 0 < id
  · have hidb : decide (0 < id) = true := decide_eq_true hid
    go_enter Try.func20, Try.ntmps20
    go_wp2_with fail
    go_loop [6] (fun vi => ∃ i : Int, vi = .int .i64 i ∧ 0 ≤ i ∧ i ≤ m ∧ Hid (∀ j : Int, 0 ≤ j → j < i → s.who j ≠ id)) (fun vi => m - (intOf vi).toNat)
    case atStart => exact ⟨0, rfl, by omega, by omega, fun j h0 h1 => by omega⟩
    case round =>
      obtain ⟨i, rfl, hi0, hi1, HJ⟩ := hrel
      by_cases hlt : i < m
      · have hltc : decide (i < (m : Int)) = true := decide_eq_true hlt
        have hc := HR.out.row i.toNat (by have := HM.out; omega)
        rw [show ((i.toNat : Nat) : Int) = i from by omega] at hc
        by_cases he : s.who i = id
        · have heb : (s.who i == id) = true := by rw [he]; simp
          have HF := Lib.hid ((find_iff HR.out.wf id i).2 ⟨by omega, he⟩)
          clear he
          go_wp2_with fail
          go_ret2
          exact ⟨by rw [HF.out]; rfl, rfl⟩
        · have heb : (s.who i == id) = false := by rw [beq_eq_false_iff_ne]; exact he
          have HJ2 : Hid (∀ j : Int, 0 ≤ j → j < i + 1 → s.who j ≠ id) := fun j h0 h1 => if h : j < i then HJ.out j h0 h else (show j = i by omega) ▸ he
          clear he
          go_wp2_with fail
          go_round
          case rel => exact ⟨i + 1, rfl, by omega, by omega, HJ2.out⟩
          case measure => simp [intOf]; omega
      · have hltc : decide (i < (m : Int)) = false := decide_eq_false hlt
        have HF := Lib.hid (find_none HR.out.wf fun j h0 h1 => HJ.out j h0 (by have := HM.out; omega))
        go_wp2_with fail
        go_ret2
        exact ⟨by rw [HF.out]; rfl, rfl⟩
  · have hidb : decide (0 < id) = false := decide_eq_false hid
    have HF : Hid (s.find id = none) := by
      cases hf : s.find id with
      | none => exact rfl
      | some k =>
        obtain ⟨h1, h2⟩ := (find_iff HR.out.wf id k).1 hf
        have := who_pos HR.out.wf (k := k) (by rw [h2]; exact h1)
        omega
    have hltc : decide (0 < m) = true := decide_eq_true (by omega)
    go_enter Try.func20, Try.ntmps20
    go_wp2_with fail
    go_loop [6] (fun vi => vi = .int .i64 0) (fun vi => 0)
    case atStart => exact rfl
    case round =>
      obtain rfl := hrel
      go_wp2_with fail
      go_ret2
      exact ⟨by rw [HF.out]; rfl, rfl⟩

theorem pc_most (s : SS) (h : WFs s) : pc s.who s.most.toNat = s.cnt := by
  have m0 := h.m0
  have m1 := h.m1
  have o1 : s.most ≤ 1 → b1 (s.who 1) = 0 := fun hh => b1_zero (who_out h 1 (.inr hh))
  have o2 : s.most ≤ 2 → b1 (s.who 2) = 0 := fun hh => b1_zero (who_out h 2 (.inr hh))
  have o3 : s.most ≤ 3 → b1 (s.who 3) = 0 := fun hh => b1_zero (who_out h 3 (.inr hh))
  unfold SS.cnt
  have : s.most = 1 ∨ s.most = 2 ∨ s.most = 3 ∨ s.most = 4 := by omega
  rcases this with e | e | e | e
  · rw [o1 (by omega), o2 (by omega), o3 (by omega), e]; simp [pc]
  · rw [o2 (by omega), o3 (by omega), e]; simp [pc]
  · rw [o3 (by omega), e]; simp [pc]
  · rw [e]; simp [pc]

set_option maxRecDepth 100000 in
set_option maxHeartbeats 2000000 in
theorem rcount_calls (r : Nat) (s : SS) (w : World) (hR : IsR w r s) :
    Calls Try.prog 23 #[.pointer (some ⟨r + 1, 0, none⟩)] w fun e w' => e = .returned (.int .i64 s.cnt) ∧ w = w' := by
  obtain ⟨c0, c1, f1⟩ := isR_cells hR
  have HR := Lib.hid hR
  have m0 := hR.wf.m0
  have m1 := hR.wf.m1
  obtain ⟨m, hm⟩ : ∃ m : Nat, m = s.most.toNat := ⟨_, rfl⟩
  have HM : Hid ((m : Int) = s.most) := by show (m : Int) = s.most; omega
  have m2 : m ≤ 4 := by omega
  have m3 : 1 ≤ m := by omega
  rw [← hm] at c0
  clear hR hm m0 m1
  go_enter Try.func23, Try.ntmps23
  go_wp2_with fail
  go_loop [3, 4] (fun vn vi => ∃ i : Int, vn = .int .i64 (pc s.who i.toNat) ∧ vi = .int .i64 i ∧ 0 ≤ i ∧ i ≤ m) (fun _ vi => m - (intOf vi).toNat)
  case atStart => exact ⟨0, rfl, rfl, by omega, by omega⟩
  case round =>
    obtain ⟨k, rfl, rfl, hk0, hk1⟩ := hrel
    by_cases hlt : k < m
    · have hltc : decide (k < (m : Int)) = true := decide_eq_true hlt
      have hck := HR.out.row k.toNat (by have := HM.out; omega)
      rw [show ((k.toNat : Nat) : Int) = k from by omega] at hck
      have hnn := who_nonneg HR.out.wf k
      have hpl := pc_le s.who k.toNat
      have hps : pc s.who (k + 1).toNat = pc s.who k.toNat + b1 (s.who k) := by
        rw [show (k + 1).toNat = k.toNat + 1 from by omega]
        show _ + b1 (s.who (k.toNat : Int)) = _
        rw [show (k.toNat : Int) = k from by omega]
      by_cases hz : s.who k = 0
      · rw [b1_zero hz] at hps
        have HPS := Lib.hid hps
        rw [hz] at hck
        clear hz hnn hps
        go_wp2_with fail
        go_round
        case rel => exact ⟨k + 1, by rw [HPS.out]; rfl, rfl, by omega, by omega⟩
        case measure => simp [intOf]; omega
      · rw [b1_one hz] at hps
        have HPS := Lib.hid hps
        have hgt : decide (0 < s.who k) = true := decide_eq_true (by omega)
        clear hz hnn hps
        go_wp2_with fail
        go_round
        case rel => exact ⟨k + 1, by rw [HPS.out]; simp, rfl, by omega, by omega⟩
        case measure => simp [intOf]; omega
    · have hltc : decide (k < (m : Int)) = false := decide_eq_false hlt
      have HP : Hid (pc s.who k.toNat = s.cnt) := by
        rw [show k.toNat = s.most.toNat from by have := HM.out; omega]
        exact pc_most s HR.out.wf
      go_wp2_with fail
      go_ret
      exact ⟨by rw [HP.out]; rfl, rfl⟩

/-- A store into the row. -/
theorem isR_row {w : World} {r : Nat} {s : SS} (h : IsR w r s) (k v : Int) (h0 : 0 ≤ k) (h1 : k < s.most) (s2 : SS) (e1 : s2.most = s.most) (e2 : s2.last = s.last) (e3 : s2.who = fun j => if j = k then v else s.who j) (hw : WFs s2) :
    IsR (w.setCell ⟨r, k.toNat, none⟩ (.int .i64 v)) r s2 := by
  have g := grown_set0 w ⟨r, k.toNat, none⟩ (.int .i64 v)
  refine ⟨hw, ?_, ?_, ?_, ?_⟩
  · rw [e1, e2]
    exact (g.block (r + 1) (isR_lt h) (fun e => by injection e with e; exact absurd (show r + 1 = r from e) (by omega))).trans h.st
  · exact Nat.lt_of_lt_of_le h.lt g.size
  · intro j hj
    rw [e1] at hj
    rw [e3]
    have hkc := h.row k.toNat (by omega)
    by_cases hjk : (j : Int) = k
    · have : j = k.toNat := by omega
      subst this
      rw [show (fun j : Int => if j = k then v else s.who j) ((k.toNat : Nat) : Int) = v from if_pos hjk]
      exact World.cell?_setCell_same' _ _ _ (by simp [hkc])
    · rw [show (fun j : Int => if j = k then v else s.who j) (j : Int) = s.who j from if_neg hjk]
      rw [World.cell?_setCell_other (h := by intro e; injection e with _ e; omega)]
      exact h.row j hj
  · intro j
    rw [World.frozen?_setCell]
    exact h.fr j

set_option maxRecDepth 100000 in
set_option maxHeartbeats 2000000 in
theorem rfree_calls (r : Nat) (s : SS) (id : Int) (w : World) (hR : IsR w r s) :
    Calls Try.prog 17 #[.pointer (some ⟨r + 1, 0, none⟩), .int .i64 id] w fun e w' => e = .returned (.bool (s.find id).isSome) ∧ IsR w' r (s.free id) ∧ Chg r (r + 2) w w' := by
  have O := Lib.hid (rof_calls r s id w hR)
  have HR := Lib.hid hR
  cases hf : s.find id with
  | none =>
    rw [hf] at O
    have HF := Lib.hid (free_none hf)
    clear hR hf
    go_enter Try.func17, Try.ntmps17
    go_wp2_with (go_at_call 20; refine (O.out).mono ?_; rintro e w' ⟨rfl, rfl⟩)
    go_ret
    rw [HF.out]
    exact ⟨rfl, HR.out, Chg.refl _ _ _⟩
  | some k =>
    rw [hf] at O
    obtain ⟨hid, hk⟩ := (find_iff hR.wf id k).1 hf
    obtain ⟨k0, k1, _, _⟩ := hR.wf.wh k (by rw [hk]; exact hid)
    obtain ⟨c0, c1, f1⟩ := isR_cells hR
    have hc := hR.row k.toNat (by omega)
    have hfr := hR.fr k.toNat
    have FIN : Hid (IsR (w.setCell ⟨r, k.toNat, none⟩ (.int .i64 0)) r (s.free id)) := isR_row hR k 0 k0 k1 (s.free id) rfl rfl (by
      funext j
      show (if s.find id = some j then 0 else s.who j) = if j = k then 0 else s.who j
      rw [hf]
      by_cases hj : j = k
      · rw [if_pos hj, if_pos (by rw [hj])]
      · rw [if_neg hj, if_neg (fun e => hj (by injection e with e; exact e.symm))]) (wfs_free hR.wf id)
    obtain ⟨m, hm⟩ : ∃ m : Nat, m = s.most.toNat := ⟨_, rfl⟩
    have hlt : k < (m : Int) := by omega
    rw [← hm] at c0
    clear hR hf hm k1 hid hk
    go_enter Try.func17, Try.ntmps17
    go_wp2_with (go_at_call 20; refine (O.out).mono ?_; rintro e w' ⟨rfl, rfl⟩)
    go_ret
    exact ⟨rfl, FIN.out, chg_grown (grown_set0 w ⟨r, k.toNat, none⟩ (.int .i64 0)) (Nat.le_refl _) (by show r < r + 2; omega)⟩

theorem isR_last {w : World} {r : Nat} {s : SS} (h : IsR w r s) (v : Int) (hw : WFs { s with last := v }) : IsR (w.setCell ⟨r + 1, 1, none⟩ (.int .i64 v)) r { s with last := v } := by
  have g := grown_set0 w ⟨r + 1, 1, none⟩ (.int .i64 v)
  have hlt := isR_lt h
  have h' : w.heap[r + 1] = .cells #[.slice (some ⟨r, 0, none⟩) s.most.toNat s.most.toNat, .int .i64 s.last] 50 (0, 0) := by simpa [Array.getElem?_eq_getElem hlt] using h.st
  have hk : (w.setCell ⟨r + 1, 1, none⟩ (.int .i64 v)).heap[r]? = w.heap[r]? := g.block r h.lt (fun e => by injection e with e; exact absurd (show r = r + 1 from e) (by omega))
  refine ⟨hw, ?_, Nat.lt_of_lt_of_le h.lt g.size, fun k hk' => ?_, fun k => ?_⟩
  · show (w.heap.modify (r + 1) _)[r + 1]? = _
    rw [Array.getElem?_eq_getElem (by simpa using hlt), Array.getElem_modify_self, h']
    rfl
  · rw [← h.row k hk']; simp [World.cell?, hk]
  · rw [← h.fr k]; simp [World.frozen?, hk]

theorem wfs_last {s : SS} (h : WFs s) (hl : s.last < 1000) : WFs { s with last := s.last + 1 } := by
  have := h.l0
  exact ⟨h.m0, h.m1, by show 0 ≤ s.last + 1; omega, by show s.last + 1 ≤ 1000; omega, fun k hk => by have := h.wh k hk; exact ⟨this.1, this.2.1, this.2.2.1, by show s.who k ≤ s.last + 1; omega⟩, h.inj⟩
set_option maxRecDepth 100000 in
set_option maxHeartbeats 4000000 in
theorem rsubmit_calls (r : Nat) (s : SS) (q : ByteArray) (k n : Int) (w : World) (hq : q.size ≤ 1048576) (hl : s.last < 1000) (hR : IsR w r s) :
    Calls Try.prog 18 #[.pointer (some ⟨r + 1, 0, none⟩), .agg #[.string q, .int .i64 k, .int .i64 n]] w fun e w' =>
      e = .returned (.tuple #[.int .i64 (s.submit (mayB q k n)).2.1, .int .i64 (s.submit (mayB q k n)).2.2.1, .int .i64 (s.submit (mayB q k n)).2.2.2]) ∧ IsR w' r (s.submit (mayB q k n)).1 ∧ Chg r (r + 2) w w' := by
  have M := Lib.hid (fun W => rmay_calls q k n W hq)
  have HB0 := Lib.hid (below_al w (.cells #[.string q, .int .i64 k, .int .i64 n] 32 (0, 0)))
  have HR0 := Lib.hid (isR_below hR HB0.out)
  clear hR
  generalize mayB q k n = may at *
  unfold SS.submit
  cases may with
  | false =>
    rw [if_pos rfl]
    go_enter Try.func18, Try.ntmps18
    go_wp2_with (go_at_call 25; refine (M.out _).mono ?_; rintro e w1 ⟨rfl, hb1⟩; have HB := Lib.hid hb1; clear hb1)
    go_ret3
    exact ⟨rfl, isR_below HR0.out HB.out, (chg_below HB0.out).trans (chg_below HB.out)⟩
  | true =>
    rw [if_neg (by simp)]
    obtain ⟨m, hm⟩ : ∃ m : Nat, m = s.most.toNat := ⟨_, rfl⟩
    have m0 := HR0.out.wf.m0
    have m1 := HR0.out.wf.m1
    have HM : Hid ((m : Int) = s.most) := by show (m : Int) = s.most; omega
    have m2 : m ≤ 4 := by omega
    have m3 : 1 ≤ m := by omega
    have HM2 := Lib.hid hm
    clear hm m0 m1
    by_cases hc : (s.cnt : Int) = s.most
    · rw [if_pos hc]
      have HQ := Lib.hid (fun j a b => full_all HR0.out.wf hc j a b)
      clear hc
      go_enter Try.func18, Try.ntmps18
      go_wp2_with fail
      refine (M.out _).mono ?_
      rintro e w1 ⟨rfl, hb1⟩
      have HR1 := Lib.hid (isR_below HR0.out hb1)
      have HC1 := Lib.hid ((chg_below (lo := r) (hi := r + 2) HB0.out).trans (chg_below hb1))
      clear hb1 HR0 HB0
      obtain ⟨c0, c1, f1⟩ := isR_cells HR1.out
      rw [← HM2.out] at c0
      go_wp2_with fail
      go_loop [7] (fun vi => ∃ i : Int, vi = .int .i64 i ∧ 0 ≤ i ∧ i ≤ m) (fun vi => m - (intOf vi).toNat)
      case atStart => exact ⟨0, rfl, by omega, by omega⟩
      case round =>
        obtain ⟨i, rfl, hi0, hi1⟩ := hrel
        by_cases hlt : i < m
        · have hltc : decide (i < (m : Int)) = true := decide_eq_true hlt
          have hc := HR1.out.row i.toNat (by have := HM.out; omega)
          rw [show ((i.toNat : Nat) : Int) = i from by omega] at hc
          have hne : (s.who i == 0) = false := by rw [beq_eq_false_iff_ne]; exact HQ.out i hi0 (by have := HM.out; omega)
          go_wp2_with fail
          go_round
          case rel => exact ⟨i + 1, rfl, by omega, by omega⟩
          case measure => simp [intOf]; omega
        · have hltc : decide (i < (m : Int)) = false := decide_eq_false hlt
          go_wp2_with fail
          go_ret3
          exact ⟨rfl, HR1.out, HC1.out⟩
    · rw [if_neg hc]
      obtain ⟨q0, q1, q2, q3⟩ := least_ok HR0.out.wf hc
      have HQ := Lib.hid (And.intro q0 q3)
      have q4 : s.least < m := by have := HM.out; omega
      have q5 : s.least < s.most := q2
      have l0 := HR0.out.wf.l0
      have HC := Lib.hid hc
      clear q0 q2 q3 hc q5
      go_enter Try.func18, Try.ntmps18
      go_wp2_with fail
      refine (M.out _).mono ?_
      rintro e w1 ⟨rfl, hb1⟩
      have HR1 := Lib.hid (isR_below HR0.out hb1)
      have HC1 := Lib.hid ((chg_below (lo := r) (hi := r + 2) HB0.out).trans (chg_below hb1))
      clear hb1 HR0 HB0
      have HW := Lib.hid HR1.out.wf
      obtain ⟨c0, c1, f1⟩ := isR_cells HR1.out
      rw [← HM2.out] at c0
      go_wp2_with fail
      go_loop [7] (fun vi => ∃ i : Int, vi = .int .i64 i ∧ 0 ≤ i ∧ i ≤ s.least) (fun vi => s.least.toNat - (intOf vi).toNat)
      case atStart => exact ⟨0, rfl, by omega, by omega⟩
      case round =>
        obtain ⟨i, rfl, hi0, hi1⟩ := hrel
        have hltc : decide (i < (m : Int)) = true := decide_eq_true (by omega)
        have hlt2 : i < (m : Int) := by omega
        have hc := HR1.out.row i.toNat (by have := HM.out; omega)
        rw [show ((i.toNat : Nat) : Int) = i from by omega] at hc
        by_cases hlt : i < s.least
        · have hne : (s.who i == 0) = false := by rw [beq_eq_false_iff_ne]; exact HQ.out.2 i hi0 hlt
          go_wp2_with fail
          go_round
          case rel => exact ⟨i + 1, rfl, by omega, by omega⟩
          case measure => simp [intOf]; omega
        · obtain rfl : i = s.least := by omega
          rw [HQ.out.1] at hc
          go_upto_region 8 with fail
          clear hc hltc
          have HR2 := Lib.hid (isR_last HR1.out (s.last + 1) (wfs_last HR1.out.wf hl))
          have HC2 := Lib.hid (HC1.out.trans (chg_grown (lo := r) (hi := r + 2) (grown_set0 w1 ⟨r + 1, 1, none⟩ (.int .i64 (s.last + 1))) (by show r ≤ r + 1; omega) (by show r + 1 < r + 2; omega)))
          clear c0 c1 f1 HR1 HC1
          generalize w1.setCell ⟨r + 1, 1, none⟩ (.int .i64 (s.last + 1)) = w2 at *
          obtain ⟨c0, c1, f1⟩ := isR_cells HR2.out
          rw [show ({ s with last := s.last + 1 } : SS).most.toNat = m from HM2.out.symm] at c0
          have hfr := HR2.out.fr s.least.toNat
          have hc := HR2.out.row s.least.toNat (by show _ < s.most; have := HM.out; omega)
          have HF2 := Lib.hid (isR_drew (isR_row HR2.out s.least (s.last + 1) q1 (by show _ < s.most; have := HM.out; omega) s.put rfl rfl rfl (wfs_put HW.out HC.out hl)))
          go_wp2_with fail
          go_region
          clear c0 c1 f1 hfr hc
          have HC3 := Lib.hid (chg_drew (HC2.out.trans (chg_grown (lo := r) (hi := r + 2) (grown_set0 w2 ⟨r, s.least.toNat, none⟩ (.int .i64 (s.last + 1))) (Nat.le_refl _) (by show r < r + 2; omega))))
          generalize (w2.setCell ⟨r, s.least.toNat, none⟩ (.int .i64 (s.last + 1))).drew = w3 at *
          obtain ⟨c0, c1, f1⟩ := isR_cells HF2.out
          rw [show s.put.last = s.last + 1 from rfl] at c1
          go_wp2_with fail
          go_region
          go_wp2_with fail
          go_ret3
          exact ⟨rfl, isR_drew HF2.out, chg_drew HC3.out⟩
end Go.Proofs.Ytimndkjgagdphaa
