/- The walk of LeaseRises. -/
import Derived.Test.YtjebpccoddcnjaaActs
import Derived.BigQuiet
import Derived.Deep.QuietTactic
import Derived.Deep.RegionWith
import Derived.Deep.RegionHeld3
import Derived.IntWalk
namespace Go.Proofs.Ytjebpccoddcnjaa
open Go.RowKit Go.Proofs.YtjebpccoddcnjaaW.PrintWords Go.Proofs.YtjebpccoddcnjaaW.PrintLast
set_option linter.unusedVariables false
set_option linter.unusedSimpArgs false

theorem act_n (s : LS) (z : Bool) (k n m : Int) : (s.act z k n m).n = s.n := (act_other (j := 0) s z k n m (fun h => by omega)).n
theorem act_rise (s : LS) (z : Bool) (k n m j : Int) (h0 : 1 ≤ j) :
    (s.life j.toNat < n ∧ (s.act z k n m).life j.toNat = n ∧ (s.act z k n m).epoch j.toNat = s.epoch j.toNat + 1 ∧ z = false ∧ j = k) ∨
    ((s.act z k n m).life j.toNat = s.life j.toNat ∧ (s.act z k n m).epoch j.toNat = s.epoch j.toNat) := by
  by_cases hk : (1 ≤ k ∧ k ≤ s.n) → j.toNat ≠ k.toNat
  · have h := act_other (j := j.toNat) s z k n m hk
    exact .inr ⟨h.lf, h.ep⟩
  · have hk1 : 1 ≤ k ∧ k ≤ s.n := Classical.byContradiction fun hn => hk (fun h => absurd h hn)
    have hk2 : j.toNat = k.toNat := Classical.byContradiction fun hn => hk (fun _ => hn)
    obtain rfl : j = k := by omega
    cases z with
    | true =>
      right
      show (s.seen j n m).1.life j.toNat = _ ∧ (s.seen j n m).1.epoch j.toNat = _
      unfold LS.seen
      split <;> exact ⟨rfl, rfl⟩
    | false =>
      show (_ ∧ (s.hello j n m).1.life j.toNat = _ ∧ (s.hello j n m).1.epoch j.toNat = _ ∧ _) ∨ ((s.hello j n m).1.life j.toNat = _ ∧ (s.hello j n m).1.epoch j.toNat = _)
      unfold LS.hello
      split
      · exact .inr ⟨rfl, rfl⟩
      · split
        · exact .inr ⟨rfl, rfl⟩
        · split
          · rename_i hlt
            refine .inl ⟨hlt, ?_, ?_, rfl, rfl⟩
            · exact upd_same _ _ _
            · exact upd_same _ _ _
          · exact .inr ⟨rfl, rfl⟩

set_option maxRecDepth 100000 in
theorem rises_awake (A : Option Addr) (len c : Nat) (hlt : (100 : Int) < len) (hb : len ≤ 9223372036854775807) (w : World) :
    Calls Try.prog 6 #[.slice A len c] w fun e w' => e = .returned (.bool true) ∧ Below w.heap.size w w' := by
  have hltb : decide ((100 : Int) < len) = true := decide_eq_true hlt
  go_enter Try.func6, Try.ntmps6
  go_wp2_with (go_at_call 9; refine (awake_calls _).mono ?_; rintro e w' ⟨rfl, hb1⟩; have HB := Lib.hid hb1; clear hb1)
  go_ret
  exact ⟨rfl, HB.out⟩

theorem zero4 : cellsOf 4 (fun _ => 0) = #[.int .i64 0, .int .i64 0, .int .i64 0, .int .i64 0] := by
  unfold cellsOf
  rw [show Array.range 4 = #[0, 1, 2, 3] from by decide]
  simp
theorem isA_drew {w : World} {g : Nat} {s : LS} (h : IsA w g s) : IsA w.drew g s := h
theorem new_block (w : World) (o : Obj) : (w.alloc o).heap[w.heap.size]? = some o := by
  show (w.heap.push _)[w.heap.size]? = _
  simp
theorem old_block (w : World) (o : Obj) (k : Nat) (h : k < w.heap.size) : (w.alloc o).heap[k]? = w.heap[k]? := by
  show (w.heap.push _)[k]? = _
  rw [Array.getElem?_push, if_neg (by omega)]
theorem alloc_size (w : World) (o : Obj) : (w.alloc o).heap.size = w.heap.size + 1 := by
  show (w.heap.push _).size = _
  simp

/-- The round's own blocks: the Act, the epochs and the lives ahead of it, of the workers below j. -/
structure L1 (w wr : World) (ga gx : Nat) (s : LS) (z : Bool) (k n m : Int) (j : Int) : Prop where
  x : XAt wr gx z k n m
  a : IsA wr ga s
  e : ∃ f, Blk wr (gx + 1) 52 4 f ∧ ∀ q : Nat, 1 ≤ q → (q : Int) < j → f q = s.epoch q
  l : ∃ f, Blk wr (gx + 1 + 1) 52 4 f ∧ ∀ q : Nat, 1 ≤ q → (q : Int) < j → f q = s.life q
  bl : Below w.heap.size w wr
  g1 : w.heap.size ≤ gx
  g2 : ga < gx
theorem L1_free {w wr : World} {ga gx : Nat} {s : LS} {z : Bool} {k n m j : Int} (h : L1 w wr ga gx s z k n m j) (q : Nat) (hq : q < 4) :
    wr.frozen? ⟨gx + 1, q, none⟩ = false ∧ wr.frozen? ⟨gx + 1 + 1, q, none⟩ = false ∧ (∃ x, wr.cell? ⟨gx + 1, q, none⟩ = some x) ∧ (∃ x, wr.cell? ⟨gx + 1 + 1, q, none⟩ = some x) := by
  obtain ⟨fe, be, he⟩ := h.e
  obtain ⟨fl, bl, hl⟩ := h.l
  exact ⟨blk_free be q, blk_free bl q, ⟨_, blk_cell be q hq⟩, ⟨_, blk_cell bl q hq⟩⟩
theorem of_in {s : LS} (hn : s.n = 3) {j : Int} (h0 : 1 ≤ j) (h1 : j ≤ 3) : s.epochOf j = s.epoch j.toNat ∧ s.lifeOf j = s.life j.toNat := by
  have hw : s.isW j = true := by unfold LS.isW; rw [decide_eq_true h0, decide_eq_true (by omega : j ≤ s.n)]; rfl
  unfold LS.epochOf LS.lifeOf
  rw [hw]
  exact ⟨rfl, rfl⟩
abbrev z52 : Obj := .cells #[.int .i64 0, .int .i64 0, .int .i64 0, .int .i64 0] 52 (0, 0)
theorem L1_start {w wr : World} {ga : Nat} {s : LS} (z : Bool) (k n m : Int) (hS : IsA wr ga s) (hW : Below w.heap.size w wr) :
    L1 w (((wr.alloc (.cells #[.bool z, .int .i64 k, .int .i64 n, .int .i64 m] 43 (0, 0))).alloc z52).alloc z52) ga wr.heap.size s z k n m 1 := by
  have hx := xat_new wr z k n m
  have s1 := alloc_size wr (.cells #[.bool z, .int .i64 k, .int .i64 n, .int .i64 m] 43 (0, 0))
  have s2 := alloc_size (wr.alloc (.cells #[.bool z, .int .i64 k, .int .i64 n, .int .i64 m] 43 (0, 0))) z52
  refine ⟨?_, isA_alloc (isA_alloc (isA_alloc hS _) _) _, ⟨fun _ => 0, ?_, fun q h1 h2 => by omega⟩, ⟨fun _ => 0, ?_, fun q h1 h2 => by omega⟩, below_alloc0 (below_alloc0 (below_alloc0 hW _) _) _, hW.size, blk_lt hS⟩
  · unfold XAt at hx ⊢
    rw [old_block _ _ _ (by omega), old_block _ _ _ (by omega)]
    exact hx
  · unfold Blk
    rw [zero4, old_block _ _ _ (by omega), ← s1]
    exact new_block _ _
  · unfold Blk
    rw [zero4, ← s1, ← s2]
    exact new_block _ _
theorem L1_step {w wr : World} {ga gx : Nat} {s : LS} {z : Bool} {k n m j : Int} (h : L1 w wr ga gx s z k n m j) (h0 : 1 ≤ j) (d : Nat) :
    L1 w (((wr.setCell ⟨gx + 1, j.toNat, none⟩ (.int .i64 (s.epoch j.toNat))).setCell ⟨gx + 1 + 1, j.toNat, none⟩ (.int .i64 (s.life j.toNat))).drewN d) ga gx s z k n m (j + 1) := by
  obtain ⟨fe, be, he⟩ := h.e
  obtain ⟨fl, bl, hl⟩ := h.l
  have g2 := h.g2
  have keep : ∀ (w0 : World) (p : Addr) (x : Value) (q : Nat), q ≠ p.block → q < w0.heap.size → (w0.setCell p x).heap[q]? = w0.heap[q]? := fun w0 p x q hq hlt => (grown_set0 w0 p x).block q hlt (fun e => hq (by injection e with e))
  have be1 : Blk (wr.setCell ⟨gx + 1, j.toNat, none⟩ (.int .i64 (s.epoch j.toNat))) (gx + 1) 52 4 (upd fe j.toNat (s.epoch j.toNat)) := blk_set be _ _
  have bl1 : Blk (wr.setCell ⟨gx + 1, j.toNat, none⟩ (.int .i64 (s.epoch j.toNat))) (gx + 1 + 1) 52 4 fl := blk_keep bl (keep _ _ _ _ (by show gx + 1 + 1 ≠ gx + 1; omega) (blk_lt bl))
  have be2 : Blk ((wr.setCell ⟨gx + 1, j.toNat, none⟩ (.int .i64 (s.epoch j.toNat))).setCell ⟨gx + 1 + 1, j.toNat, none⟩ (.int .i64 (s.life j.toNat))) (gx + 1) 52 4 (upd fe j.toNat (s.epoch j.toNat)) := blk_keep be1 (keep _ _ _ _ (by show gx + 1 ≠ gx + 1 + 1; omega) (blk_lt be1))
  have bl2 : Blk ((wr.setCell ⟨gx + 1, j.toNat, none⟩ (.int .i64 (s.epoch j.toNat))).setCell ⟨gx + 1 + 1, j.toNat, none⟩ (.int .i64 (s.life j.toNat))) (gx + 1 + 1) 52 4 (upd fl j.toNat (s.life j.toNat)) := blk_set bl1 _ _
  refine ⟨?_, ?_, ⟨_, be2, fun q h1 h2 => ?_⟩, ⟨_, bl2, fun q h1 h2 => ?_⟩, ?_, h.g1, h.g2⟩
  · have q : XAt ((wr.setCell ⟨gx + 1, j.toNat, none⟩ (.int .i64 (s.epoch j.toNat))).setCell ⟨gx + 1 + 1, j.toNat, none⟩ (.int .i64 (s.life j.toNat))) gx z k n m := xat_grown (xat_grown h.x (grown_set0 wr ⟨gx + 1, j.toNat, none⟩ _) (by show gx ≠ gx + 1; omega)) (grown_set0 _ ⟨gx + 1 + 1, j.toNat, none⟩ _) (by show gx ≠ gx + 1 + 1; omega)
    exact q
  · have q : IsA ((wr.setCell ⟨gx + 1, j.toNat, none⟩ (.int .i64 (s.epoch j.toNat))).setCell ⟨gx + 1 + 1, j.toNat, none⟩ (.int .i64 (s.life j.toNat))) ga s := isA_grown (isA_grown h.a (grown_set0 wr ⟨gx + 1, j.toNat, none⟩ _) (by show ga ≠ gx + 1; omega)) (grown_set0 _ ⟨gx + 1 + 1, j.toNat, none⟩ _) (by show ga ≠ gx + 1 + 1; omega)
    exact q
  · unfold upd
    by_cases hq : q = j.toNat
    · rw [if_pos hq, hq]
    · rw [if_neg hq]; exact he q h1 (by omega)
  · unfold upd
    by_cases hq : q = j.toNat
    · rw [if_pos hq, hq]
    · rw [if_neg hq]; exact hl q h1 (by omega)
  · exact pw_below_drewN ((h.bl.setCell (by have := h.g1; show w.heap.size ≤ gx + 1; omega) _).setCell (by have := h.g1; show w.heap.size ≤ gx + 1 + 1; omega) _) d

/-- Behind the Act. -/
structure L2 (w wr : World) (ga gx : Nat) (s s1 : LS) (z : Bool) (k n m : Int) : Prop where
  wf : WF s1
  n3 : s1.n = 3
  x : XAt wr gx z k n m
  a : IsA wr ga s1
  e : ∀ q : Nat, 1 ≤ q → q < 4 → wr.cell? ⟨gx + 1, q, none⟩ = some (.int .i64 (s.epoch q))
  l : ∀ q : Nat, 1 ≤ q → q < 4 → wr.cell? ⟨gx + 1 + 1, q, none⟩ = some (.int .i64 (s.life q))
  bl : Below w.heap.size w wr
theorem L2_start {w wr w5 : World} {ga gx : Nat} {s s1 : LS} {z : Bool} {k n m : Int} (h : L1 w wr ga gx s z k n m 4) (hA : IsA w5 ga s1) (hG : wr.grownBy w5 (some ga)) (hn : s.n = 3) (hga : w.heap.size ≤ ga) (hw : WF s1) (hs : s1.n = s.n) : L2 w w5 ga gx s s1 z k n m := by
  obtain ⟨fe, be, he⟩ := h.e
  obtain ⟨fl, bl, hl⟩ := h.l
  have g2 := h.g2
  have be1 : Blk w5 (gx + 1) 52 4 fe := blk_keep be (hG.block _ (blk_lt be) (fun e => by injection e with e; omega))
  have bl1 : Blk w5 (gx + 1 + 1) 52 4 fl := blk_keep bl (hG.block _ (blk_lt bl) (fun e => by injection e with e; omega))
  refine ⟨hw, hs.trans hn, xat_grown h.x hG (by omega), hA, fun q h1 h2 => ?_, fun q h1 h2 => ?_, below_grown h.bl hG hga⟩
  · rw [← he q h1 (by omega)]; exact blk_cell be1 q h2
  · rw [← hl q h1 (by omega)]; exact blk_cell bl1 q h2

set_option maxRecDepth 100000 in
set_option maxHeartbeats 8000000 in
theorem rises_go (A : Option Addr) (len c : Nat) (b : Nat → Bool) (u v t : Nat → Int) (hl : len ≤ 100) (w : World) (h : ActsIn w A len c b u v t) :
    Calls Try.prog 6 #[.slice A len c] w fun e w' => e = .returned (.bool true) ∧ Below w.heap.size w w' := by
  have hltb : decide ((100 : Int) < len) = false := decide_eq_false (by omega)
  have HX := Lib.hid h
  have hc := h.le
  have HWF : Hid (WF (LS.init 3 4)) := wf_init 3 4 (by omega) (by omega) (by omega) (by omega)
  clear h
  go_enter Try.func6, Try.ntmps6
  go_wp2_with fail
  refine (new_calls2 3 4 (by decide) _).mono ?_
  rintro e w1 ⟨ga, rfl, hga, hA, hb⟩
  have HA := Lib.hid hA
  have HB := Lib.hid hb
  have HGA := Lib.hid hga
  clear hA hb hga
  go_wp2_with fail
  go_loopw [5] (fun vi wr => ∃ (s : LS) (i : Int), vi = .int .i64 i ∧ 0 ≤ i ∧ i ≤ len ∧ Hid (WF s) ∧ Hid (s.n = 3) ∧ Hid (IsA wr ga s) ∧ Hid (Below w.heap.size w wr)) (fun vi wr => len - (intOf vi).toNat)
  case atStart => exact ⟨_, 0, rfl, by omega, by omega, HWF.out, rfl, HA.out, HB.out⟩
  case round =>
    obtain ⟨s, i, rfl, hi0, hi1, HJ, HN, HS, HW⟩ := hrel
    by_cases hlt : i < len
    · have hltd : decide (i < (len : Int)) = true := decide_eq_true hlt
      obtain ⟨ad, rfl, c0, c1, c2, c3⟩ := acts_at HX.out HW.out i.toNat (by omega)
      generalize b i.toNat = z at c0
      generalize u i.toNat = k at c1
      generalize v i.toNat = n at c2
      generalize t i.toNat = m at c3
      have hlt1 : Hid (wr.heap.size ≠ ga) := Ne.symm (Nat.ne_of_lt (blk_lt HS.out))
      go_upto_region 11 with fail
      have HL0 := Lib.hid (L1_start z k n m HS.out HW.out)
      clear c0 c1 c2 c3 HW hlt1
      obtain ⟨wx, hwx⟩ : ∃ wx, wx = (((wr.alloc (.cells #[.bool z, .int .i64 k, .int .i64 n, .int .i64 m] 43 (0, 0))).alloc z52).alloc z52) := ⟨_, rfl⟩
      rw [← hwx] at HL0
      rw [← hwx]
      clear hwx
      generalize wr.heap.size = gx at *
      clear HS
      go_wp2_with fail
      go_loopw [9] (fun vj wq => ∃ j : Int, vj = .int .i64 j ∧ 1 ≤ j ∧ j ≤ 4 ∧ Hid (L1 w wq ga gx s z k n m j)) (fun vj _ => 4 - (intOf vj).toNat)
      case atStart => exact ⟨1, rfl, by omega, by omega, HL0.out⟩
      case round =>
        obtain ⟨j, rfl, hj0, hj1, HL⟩ := hrel
        by_cases hlt3 : j ≤ 3
        · have hlt3b : decide (j ≤ 3) = true := decide_eq_true hlt3
          have EC := fun W h => epoch_calls ga s HJ.out j W h
          have LC := fun W h => life_calls ga s HJ.out j W h
          rw [(of_in HN.out hj0 hlt3).1] at EC
          rw [(of_in HN.out hj0 hlt3).2] at LC
          have HE := Lib.hid EC
          have HLC := Lib.hid LC
          clear EC LC
          obtain ⟨r0, r1, ⟨x0, r2⟩, ⟨x1, r3⟩⟩ := L1_free HL.out j.toNat (by omega)
          have HN1 := Lib.hid (L1_step HL.out hj0)
          have p0 : 0 ≤ j := by omega
          have p1 : j < 4 := by omega
          go_wp2_with fail
          go_region_held3 (fun w' => True) (first | trivial) (first
            | (go_at_call 13; refine (HE.out _ (isA_drew HL.out.a)).mono ?_; rintro e w' ⟨rfl, rfl⟩)
            | (go_at_call 14; refine (HLC.out _ (isA_drew HL.out.a)).mono ?_; rintro e w' ⟨rfl, rfl⟩))
          go_wp2_with fail
          go_roundw
          case rel => exact ⟨j + 1, rfl, by omega, by omega, HN1.out 1⟩
          case measure => simp [intOf]; omega
        · have hlt3b : decide (j ≤ 3) = false := decide_eq_false hlt3
          obtain rfl : j = 4 := by omega
          cases z with
          | true =>
            obtain ⟨d0, d1, d2, d3⟩ := xat_cells HL.out.x
            go_wp2_with fail
            refine (seen_calls ga s HJ.out k n m _ HL.out.a).mono ?_
            rintro e w5 ⟨rfl, hA, hG⟩
            have HF := Lib.hid (L2_start (z := true) HL.out hA hG HN.out HGA.out (act_wf HJ.out true k n m) (act_n s true k n m))
            clear d0 d1 d2 d3 hA hG HL
            obtain ⟨s1, HF, HNX⟩ : ∃ s1, Hid (L2 w w5 ga gx s s1 true k n m) ∧ Hid (s1 = s.act true k n m) := ⟨_, HF, rfl⟩
            go_wp2_with fail
            go_loopw [10] (fun vq wq => ∃ (q : Int) (a : Nat), vq = .int .i64 q ∧ 1 ≤ q ∧ q ≤ 4 ∧ wq = w5.drewN a) (fun vq _ => 4 - (intOf vq).toNat)
            case atStart => exact ⟨1, 0, rfl, by omega, by omega, rfl⟩
            case round =>
              obtain ⟨q, a, rfl, hq0, hq1, rfl⟩ := hrel
              by_cases hlt4 : q ≤ 3
              · have hlt4b : decide (q ≤ 3) = true := decide_eq_true hlt4
                obtain ⟨d0, d1, d2, d3⟩ := xat_cells HF.out.x
                have hce := HF.out.e q.toNat (by omega) (by omega)
                have hcl := HF.out.l q.toNat (by omega) (by omega)
                have EC := fun W h => epoch_calls ga s1 HF.out.wf q W h
                have LC := fun W h => life_calls ga s1 HF.out.wf q W h
                rw [(of_in HF.out.n3 hq0 hlt4).1] at EC
                rw [(of_in HF.out.n3 hq0 hlt4).2] at LC
                have p0 : 0 ≤ q := by omega
                have p1 : q < 4 := by omega
                have b0 := HJ.out.e0 q.toNat
                have b1 := HJ.out.e1 q.toNat
                have b2 := HJ.out.l1 q.toNat
                have hr := act_rise s true k n m q hq0
                rw [← HNX.out] at hr
                rcases hr with ⟨u0, u1, u2, hz, hqk⟩ | ⟨u1, u2⟩
                · cases hz
                · rw [u2] at EC
                  rw [u1] at LC
                  generalize s.epoch q.toNat = ep at *
                  generalize s.life q.toNat = li at *
                  clear u1 u2 b0 b1 b2
                  have HE := Lib.hid EC
                  have HLC := Lib.hid LC
                  clear EC LC
                  go_wp2_with fail
                  go_quiet ((first
                  | (go_at_call 13; refine (HE.out _ (isA_drewN HF.out.a _)).mono ?_; rintro e w' ⟨rfl, rfl⟩; exact ⟨rfl, _, rfl⟩)
                  | (go_at_call 14; refine (HLC.out _ (isA_drewN HF.out.a _)).mono ?_; rintro e w' ⟨rfl, rfl⟩; exact ⟨rfl, _, rfl⟩)))
                  go_wp2_with fail
                  go_quiet ((first
                  | (go_at_call 13; refine (HE.out _ (isA_drewN HF.out.a _)).mono ?_; rintro e w' ⟨rfl, rfl⟩; exact ⟨rfl, _, rfl⟩)
                  | (go_at_call 14; refine (HLC.out _ (isA_drewN HF.out.a _)).mono ?_; rintro e w' ⟨rfl, rfl⟩; exact ⟨rfl, _, rfl⟩)))
                  go_wp2_with fail
                  go_roundw
                  case rel => exact ⟨q + 1, _, rfl, by omega, by omega, rfl⟩
                  case measure => simp [intOf]; omega
              · have hlt4b : decide (q ≤ 3) = false := decide_eq_false hlt4
                go_wp2_with fail
                go_roundw
                case rel => exact ⟨s1, i + 1, rfl, by omega, by omega, HF.out.wf, HF.out.n3, isA_drewN HF.out.a _, pw_below_drewN HF.out.bl _⟩
                case measure => simp [intOf]; omega
          | false =>
            obtain ⟨d0, d1, d2, d3⟩ := xat_cells HL.out.x
            go_wp2_with fail
            refine (hello_calls ga s HJ.out k n m _ HL.out.a).mono ?_
            rintro e w5 ⟨rfl, hA, hG⟩
            have HF := Lib.hid (L2_start (z := false) HL.out hA hG HN.out HGA.out (act_wf HJ.out false k n m) (act_n s false k n m))
            clear d0 d1 d2 d3 hA hG HL
            obtain ⟨s1, HF, HNX⟩ : ∃ s1, Hid (L2 w w5 ga gx s s1 false k n m) ∧ Hid (s1 = s.act false k n m) := ⟨_, HF, rfl⟩
            go_wp2_with fail
            go_loopw [10] (fun vq wq => ∃ (q : Int) (a : Nat), vq = .int .i64 q ∧ 1 ≤ q ∧ q ≤ 4 ∧ wq = w5.drewN a) (fun vq _ => 4 - (intOf vq).toNat)
            case atStart => exact ⟨1, 0, rfl, by omega, by omega, rfl⟩
            case round =>
              obtain ⟨q, a, rfl, hq0, hq1, rfl⟩ := hrel
              by_cases hlt4 : q ≤ 3
              · have hlt4b : decide (q ≤ 3) = true := decide_eq_true hlt4
                obtain ⟨d0, d1, d2, d3⟩ := xat_cells HF.out.x
                have hce := HF.out.e q.toNat (by omega) (by omega)
                have hcl := HF.out.l q.toNat (by omega) (by omega)
                have EC := fun W h => epoch_calls ga s1 HF.out.wf q W h
                have LC := fun W h => life_calls ga s1 HF.out.wf q W h
                rw [(of_in HF.out.n3 hq0 hlt4).1] at EC
                rw [(of_in HF.out.n3 hq0 hlt4).2] at LC
                have p0 : 0 ≤ q := by omega
                have p1 : q < 4 := by omega
                have b0 := HJ.out.e0 q.toNat
                have b1 := HJ.out.e1 q.toNat
                have b2 := HJ.out.l1 q.toNat
                have hr := act_rise s false k n m q hq0
                rw [← HNX.out] at hr
                rcases hr with ⟨u0, u1, u2, hz, hqk⟩ | ⟨u1, u2⟩
                · obtain rfl := hqk
                  rw [u2] at EC
                  rw [u1] at LC
                  generalize s.epoch q.toNat = ep at *
                  generalize s.life q.toNat = li at *
                  have t1 : decide (li < n) = true := decide_eq_true u0
                  have t2 : decide (n < li) = false := decide_eq_false (by omega)
                  have hwr : IntKind.i64.wrap (ep + 1) = ep + 1 := IntWalk.i64_in _ (by omega)
                  clear u1 u2 b0 b1 b2
                  have HE := Lib.hid EC
                  have HLC := Lib.hid LC
                  clear EC LC
                  go_wp2_with fail
                  go_quiet ((first
                  | (go_at_call 13; refine (HE.out _ (isA_drewN HF.out.a _)).mono ?_; rintro e w' ⟨rfl, rfl⟩; exact ⟨rfl, _, rfl⟩)
                  | (go_at_call 14; refine (HLC.out _ (isA_drewN HF.out.a _)).mono ?_; rintro e w' ⟨rfl, rfl⟩; exact ⟨rfl, _, rfl⟩)))
                  go_wp2_with fail
                  go_quiet ((first
                  | (go_at_call 13; refine (HE.out _ (isA_drewN HF.out.a _)).mono ?_; rintro e w' ⟨rfl, rfl⟩; exact ⟨rfl, _, rfl⟩)
                  | (go_at_call 14; refine (HLC.out _ (isA_drewN HF.out.a _)).mono ?_; rintro e w' ⟨rfl, rfl⟩; exact ⟨rfl, _, rfl⟩)))
                  go_wp2_with fail
                  go_roundw
                  case rel => exact ⟨q + 1, _, rfl, by omega, by omega, rfl⟩
                  case measure => simp [intOf]; omega
                · rw [u2] at EC
                  rw [u1] at LC
                  generalize s.epoch q.toNat = ep at *
                  generalize s.life q.toNat = li at *
                  clear u1 u2 b0 b1 b2
                  have HE := Lib.hid EC
                  have HLC := Lib.hid LC
                  clear EC LC
                  go_wp2_with fail
                  go_quiet ((first
                  | (go_at_call 13; refine (HE.out _ (isA_drewN HF.out.a _)).mono ?_; rintro e w' ⟨rfl, rfl⟩; exact ⟨rfl, _, rfl⟩)
                  | (go_at_call 14; refine (HLC.out _ (isA_drewN HF.out.a _)).mono ?_; rintro e w' ⟨rfl, rfl⟩; exact ⟨rfl, _, rfl⟩)))
                  go_wp2_with fail
                  go_quiet ((first
                  | (go_at_call 13; refine (HE.out _ (isA_drewN HF.out.a _)).mono ?_; rintro e w' ⟨rfl, rfl⟩; exact ⟨rfl, _, rfl⟩)
                  | (go_at_call 14; refine (HLC.out _ (isA_drewN HF.out.a _)).mono ?_; rintro e w' ⟨rfl, rfl⟩; exact ⟨rfl, _, rfl⟩)))
                  go_wp2_with fail
                  go_roundw
                  case rel => exact ⟨q + 1, _, rfl, by omega, by omega, rfl⟩
                  case measure => simp [intOf]; omega
              · have hlt4b : decide (q ≤ 3) = false := decide_eq_false hlt4
                go_wp2_with fail
                go_roundw
                case rel => exact ⟨s1, i + 1, rfl, by omega, by omega, HF.out.wf, HF.out.n3, isA_drewN HF.out.a _, pw_below_drewN HF.out.bl _⟩
                case measure => simp [intOf]; omega
    · have hltd : decide (i < (len : Int)) = false := decide_eq_false hlt
      go_wp2_with fail
      refine (awake_calls _).mono ?_
      rintro e w3 ⟨rfl, hb3⟩
      have HB3 := Lib.hid hb3
      clear hb3
      go_wp2_with fail
      go_ret
      exact ⟨by simp, below_step HW.out HB3.out⟩
theorem rises_walk (A : Option Addr) (len c : Nat) (b : Nat → Bool) (u v t : Nat → Int) (w : World) (h : ActsIn w A len c b u v t) :
    Calls Try.prog 6 #[.slice A len c] w fun e w' => e = .returned (.bool true) ∧ Below w.heap.size w w' := by
  have z1 := h.le
  have z2 := h.mx
  by_cases hlt : (100 : Int) < len
  · exact rises_awake A len c hlt (by omega) w
  · exact rises_go A len c b u v t (by omega) w h
end Go.Proofs.Ytjebpccoddcnjaa
