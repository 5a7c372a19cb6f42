/- The walks of LendRunes (a copy with spare room that is marked) and KeptRunes (is it as it was). -/
import Derived.Test.YthnckedfkmfglaaRef2
import Derived.Test.YthnckedfkmfglaaAwake
import Derived.OneCell
namespace Go.Proofs.Ythnckedfkmfglaa
open Go.RowKit Go.Proofs.YthnckedfkmfglaaW.PrintWords Go.Proofs.YthnckedfkmfglaaW.PrintLast Go.Proofs.YthnckedfkmfglaaW.PrintMore
set_option linter.unusedVariables false
set_option linter.unusedSimpArgs false

theorem block_cell {w : World} {g j : Nat} {cur : Array Value} {t : TypeId} (h : w.heap[g]? = some (.cells cur t (0, 0))) : w.cell? ⟨g, j, none⟩ = cur[j]? := by simp [World.cell?, h]
theorem block_free {w : World} {g j : Nat} {cur : Array Value} {t : TypeId} (h : w.heap[g]? = some (.cells cur t (0, 0))) : w.frozen? ⟨g, j, none⟩ = false := by simp [World.frozen?, h]
theorem block_set {w : World} {g j : Nat} {cur : Array Value} {t : TypeId} (h : w.heap[g]? = some (.cells cur t (0, 0))) (v : Value) : (w.setCell ⟨g, j, none⟩ v).heap[g]? = some (.cells (cur.setIfInBounds j v) t (0, 0)) := by
  have hlt := lt_of_block h
  have h' : w.heap[g] = .cells cur t (0, 0) := by simpa [Array.getElem?_eq_getElem hlt] using h
  show (w.heap.modify g _)[g]? = _
  rw [Array.getElem?_eq_getElem (by simpa using hlt), Array.getElem_modify_self, h']
  rfl

/-- The block of what was lent: the runes, then three marks. -/
def Lent (w : World) (g : Nat) (l : List Int) : Prop := ∃ cur : Array Value, w.heap[g]? = some (.cells cur 21 (0, 0)) ∧ cur.toList = nums .i32 l ++ [.int .i32 (-7), .int .i32 (-7), .int .i32 (-7)]

theorem lent_C {w : World} {g : Nat} {l : List Int} (h : Lent w g l) (hl : l.length ≤ 1048576) : Kd.C (Kd.int .i32) w (some ⟨g, 0, none⟩) l.length l := by
  obtain ⟨cur, hb, hc⟩ := h
  have hsz : cur.size = l.length + 3 := by rw [← Array.length_toList, hc]; simp [nums]
  have ho : w.ownsRow 0 21 1 (.slice (some ⟨g, 0, none⟩) l.length (l.length + 3)) l.length (encs (Value.int .i32) l) := by
    refine ⟨by simp [encs], .inr ⟨g, l.length + 3, cur, rfl, Nat.zero_le _, hb, by omega, by simp [maxLen]; omega, by omega, ?_⟩⟩
    rw [hc, Nat.mul_one, show l.length = (nums .i32 l).length from by simp [nums], List.take_left]
    rfl
  have hR : (Kd.int .i32).R 21 w 0 (fun _ => True) (.slice (some ⟨g, 0, none⟩) l.length (l.length + 3)) l := Kd.R_of_own ho (fun _ _ => trivial)
  exact (Kd.R_reads' hR).2.2
theorem lent_below {w w1 : World} {g : Nat} {l : List Int} (h : Lent w g l) (hb : Below w.heap.size w w1) : Lent w1 g l := by
  obtain ⟨cur, h1, h2⟩ := h
  exact ⟨cur, (hb.block g (lt_of_block h1)).trans h1, h2⟩
theorem lent_cell {w : World} {g : Nat} {l : List Int} (h : Lent w g l) (i : Nat) (hi : i < 3) : w.cell? ⟨g, l.length + i, none⟩ = some (.int .i32 (-7)) := by
  obtain ⟨cur, hb, hc⟩ := h
  rw [block_cell hb, ← Array.getElem?_toList, hc, List.getElem?_append_right (by simp [nums])]
  have : l.length + i - (nums .i32 l).length = i := by simp [nums]
  rw [this]
  match i, hi with
  | 0, _ => rfl
  | 1, _ => rfl
  | 2, _ => rfl

theorem info21_at : ∃ i0, Try.prog.info? 21 = some i0 ∧ i0.zero = some (.int .i32 0) ∧ i0.size = 1 ∧ i0.bytes = 4 := by
  obtain ⟨i0, hi, hz⟩ := Option.map_eq_some_iff.1 info21
  simp only [Prod.mk.injEq] at hz
  exact ⟨i0, hi, hz.1, hz.2.1, hz.2.2⟩

theorem make_lent (n : Nat) (hn : n ≤ 1048576) (W : World) : (Instr.makeSlice 25 (.int .i64 0) (.int .i64 ((n : Int) + 3))).run Try.prog W = .ok (.slice (some ⟨W.heap.size, 0, none⟩) 0 (n + 3)) (W.alloc (.cells (madeCells #[.int .i32 0] (n + 3)) 21)) := by
  obtain ⟨i0, hi, hz, hs, hb⟩ := info21_at
  have := run_make (P := Try.prog) W 25 21 i0 _ Try.underlying25 hi hz .i64 .i64 0 ((n : Int) + 3) (by omega) (by omega) (by rw [hb]; omega) (by omega)
  rw [this, hs]
  simp only [Int.toNat_zero, Nat.mul_one]
  rw [show ((n : Int) + 3).toNat = n + 3 from by omega]
  rfl

theorem cut_room (b n : Nat) (W : World) : (Instr.slice 25 (.slice (some ⟨b, 0, none⟩) n (n + 3)) (some (.int .i64 (n : Int))) (some (.int .i64 ((n : Int) + 3))) none).run Try.prog W = .ok (.slice (some ⟨b, n, none⟩) 3 3) W := by
  obtain ⟨i0, hi, hz, hsz, hb⟩ := info21_at
  have hel : Try.prog.elem 25 = 21 := by simp [Program.elem, Try.underlying25]
  have hu : Try.prog.underlying 25 = some (.slice (Try.prog.elem 25)) := by rw [hel]; exact Try.underlying25
  rw [run_slice_lh W 25 _ n (n + 3) hu .i64 .i64 (n : Int) ((n : Int) + 3) (by omega) (by omega) (by omega), hel]
  simp [sizeOf, typeInfo, hi, hsz, sliced, Result.andThen]
  refine ⟨?_, ?_⟩
  · unfold Addr.add
    by_cases h : n = 0
    · simp [h]
    · simp [h]
  · omega

/-- The loop's state: i marks are set. -/
def Marked (w : World) (g : Nat) (l : List Int) (i : Int) : Prop := ∃ cur : Array Value, w.heap[g]? = some (.cells cur 21 (0, 0)) ∧ cur.size = l.length + 3 ∧ cur.toList.take l.length = nums .i32 l ∧ ∀ j : Nat, (j : Int) < i → cur[l.length + j]? = some (.int .i32 (-7))
theorem marked_cell {w : World} {g : Nat} {l : List Int} {i : Int} (h : Marked w g l i) (h0 : 0 ≤ i) (h3 : i < 3) : ∃ v, w.cell? ⟨g, l.length + i.toNat, none⟩ = some v ∧ w.frozen? ⟨g, l.length + i.toNat, none⟩ = false := by
  obtain ⟨cur, hb, hs, _, _⟩ := h
  refine ⟨cur[l.length + i.toNat]'(by omega), ?_, block_free hb⟩
  rw [block_cell hb, Array.getElem?_eq_getElem]
theorem marked_set {w : World} {g : Nat} {l : List Int} {i : Int} (h : Marked w g l i) (h0 : 0 ≤ i) (h3 : i < 3) : Marked (w.setCell ⟨g, l.length + i.toNat, none⟩ (.int .i32 (-7))) g l (i + 1) := by
  obtain ⟨cur, hb, hs, ht, hm⟩ := h
  refine ⟨_, block_set hb _, by simpa using hs, ?_, fun j hj => ?_⟩
  · rw [Array.toList_setIfInBounds, List.take_set_of_le (by omega)]
    exact ht
  · rw [Array.getElem?_setIfInBounds]
    by_cases e : l.length + i.toNat = l.length + j
    · rw [if_pos e, if_pos (by omega)]
    · rw [if_neg e]
      exact hm j (by omega)
theorem marked_lent {w : World} {g : Nat} {l : List Int} (h : Marked w g l 3) : Lent w g l := by
  obtain ⟨cur, hb, hs, ht, hm⟩ := h
  refine ⟨cur, hb, ?_⟩
  have e := (List.take_append_drop l.length cur.toList).symm
  rw [ht] at e
  rw [e]
  congr 1
  apply List.ext_getElem?
  intro j
  rw [List.getElem?_drop, Array.getElem?_toList]
  by_cases hj : j < 3
  · rw [hm j (by omega)]
    match j, hj with
    | 0, _ => rfl
    | 1, _ => rfl
    | 2, _ => rfl
  · rw [Array.getElem?_eq_none (by omega), List.getElem?_eq_none (by simp; omega)]

theorem C_cells {w : World} {A : Option Addr} {l : List Int} (h : Kd.C (Kd.int .i32) w A l.length l) (o : Obj) : ∀ ad, A = some ad → ∀ j u, (nums .i32 l)[j]? = some u → (w.alloc o).cell? (ad.add j) = some u := by
  intro ad e j u hu
  subst e
  have hr := Kd.reads_of_C (enc := Value.int .i32) (d := (0 : Int)) (h1 := fun _ => rfl) (Kd.C_alloc h o)
  have hj : j < l.length := by
    have := (List.getElem?_eq_some_iff.1 hu).1
    simpa [nums] using this
  obtain ⟨ad', e', hcc⟩ := hr.2.2 (by omega)
  injection e' with e'
  subst e'
  rw [hcc j hj]
  simp [nums, hj] at hu
  simp [List.getD_eq_getElem?_getD, hj, hu]

set_option maxRecDepth 100000 in
set_option maxHeartbeats 4000000 in
theorem lend_calls (A : Option Addr) (c : Nat) (l : List Int) (w : World) (h : Kd.C (Kd.int .i32) w A l.length l) (hc : l.length ≤ c) (hnil : A = none → c = 0) (hl : l.length ≤ 1048576) :
    Calls Try.prog 26 #[.slice A l.length c] w fun e w' => e = .returned (.slice (some ⟨w.heap.size, 0, none⟩) l.length (l.length + 3)) ∧ Lent w' w.heap.size l ∧ Below w.heap.size w w' := by
  have HX := Lib.hid h
  obtain ⟨i0, hi, hz, hsz, hbt⟩ := info21_at
  have HI := Lib.hid hi
  have hmk := make_lent l.length hl
  have hown : Hid ((w.alloc (.cells (madeCells #[.int .i32 0] (l.length + 3)) 21)).ownsRow w.heap.size 21 1 (.slice (some ⟨w.heap.size, 0, none⟩) 0 (l.length + 3)) 0 []) :=
    World.ownsRow_made w _ (l.length + 3) (Nat.le_refl _) (by simp [maxLen]; omega) (by rw [size_madeCells]; omega)
  have HS := Lib.hid hsz
  have HCC := Lib.hid (C_cells h (.cells (madeCells #[.int .i32 0] (l.length + 3)) 21))
  clear h hi hz hsz hbt
  go_enter Try.func26, Try.ntmps26
  go_wp2_with (at_builtin; refine wpList_append_fits_any _ rfl (.tmp 10) (.tmp 11) 25 rfl w.heap.size 21 i0 1 Try.underlying25 HI.out HS.out w.heap.size 0 (l.length + 3) [] rfl hown.out A l.length c (nums .i32 l) rfl ?g1 ?g2 ?g3 ?g4 ?g5 ?_; (case g1 => simp [nums]); (case g2 => intro e; have := hnil e; omega); (case g3 => exact HCC.out); (case g4 => exact ints_oneCell _ _); (case g5 => omega); intro w1 ho1 hg1; have HO := Lib.hid ho1; have HG := Lib.hid hg1; clear ho1 hg1)
  have hm0 : Marked w1 w.heap.size l 0 := by
    have ho := HO.out
    simp only [Nat.zero_add, List.nil_append] at ho
    rcases ho.2 with ⟨e, _⟩ | ⟨g, cap, cur, e, hg, hb, hle, hmax, hsz, ht⟩
    · cases e
    · injection e with e1 e2 e3
      injection e1 with e1
      injection e1 with e1
      subst e1
      exact ⟨cur, hb, by omega, by rw [Nat.mul_one] at ht; exact ht, fun j hj => by omega⟩
  have HM := Lib.hid hm0
  have HB : Hid (Below w.heap.size w w1) := ((Below.refl _ _).alloc (Nat.le_refl _) _).grown HG.out (by simp) (fun k hk => by injection hk with hk; omega)
  have hcut := cut_room w.heap.size l.length
  clear hm0 HO HG HCC HX hown hmk
  go_wp2_with fail
  go_loopw [5] (fun vi wr => ∃ i : Int, vi = .int .i64 i ∧ 0 ≤ i ∧ i ≤ 3 ∧ Hid (Marked wr w.heap.size l i) ∧ Hid (Below w.heap.size w wr)) (fun vi wr => 3 - (intOf vi).toNat)
  case atStart => exact ⟨0, rfl, by omega, by omega, HM.out, HB.out⟩
  case round =>
    obtain ⟨i, rfl, hi0, hi3, hmk, hbw⟩ := hrel
    by_cases hlt : i < 3
    · have hltb : decide (i < 3) = true := decide_eq_true hlt
      obtain ⟨v, hcell, hfree⟩ := marked_cell hmk.out hi0 hlt
      have hnext := Lib.hid (marked_set hmk.out hi0 hlt)
      have hbn : Hid (Below w.heap.size w (wr.setCell ⟨w.heap.size, l.length + i.toNat, none⟩ (.int .i32 (-7)))) := hbw.out.setCell (Nat.le_refl _) _
      clear hmk hbw
      go_wp2_with fail
      go_roundw
      case rel => exact ⟨i + 1, rfl, by omega, by omega, hnext.out, hbn.out⟩
      case measure => simp [intOf]; omega
    · have hltb : decide (i < 3) = false := decide_eq_false hlt
      obtain rfl : i = 3 := by omega
      go_wp2_with fail
      go_ret
      exact ⟨rfl, marked_lent hmk.out, hbw.out⟩
end Go.Proofs.Ythnckedfkmfglaa
