/- Plain law: what an Act makes of a table; an Act in a block of its own. -/
import Derived.Test.YtjebpccoddcnjaaOpen
namespace Go.Proofs.Ytjebpccoddcnjaa
open Go.RowKit Go.Proofs.YtjebpccoddcnjaaW.PrintWords Go.Proofs.YtjebpccoddcnjaaW.PrintLast
set_option linter.unusedVariables false
set_option linter.unusedSimpArgs false

def LS.act (s : LS) (b : Bool) (k n t : Int) : LS := if b then (s.seen k n t).1 else (s.hello k n t).1
theorem act_wf {s : LS} (h : WF s) (b : Bool) (k n t : Int) : WF (s.act b k n t) := by
  unfold LS.act
  cases b
  · exact wf_hello h k n t
  · exact wf_seen h k n t

/-- Two tables agree on worker j. -/
structure Same (j : Nat) (a b : LS) : Prop where
  n : a.n = b.n
  te : a.term = b.term
  lf : a.life j = b.life j
  ep : a.epoch j = b.epoch j
  ti : a.till j = b.till j
theorem Same.refl (j : Nat) (a : LS) : Same j a a := ⟨rfl, rfl, rfl, rfl, rfl⟩
theorem Same.trans {j : Nat} {a b c : LS} (h : Same j a b) (k : Same j b c) : Same j a c := ⟨h.n.trans k.n, h.te.trans k.te, h.lf.trans k.lf, h.ep.trans k.ep, h.ti.trans k.ti⟩
theorem Same.symm {j : Nat} {a b : LS} (h : Same j a b) : Same j b a := ⟨h.n.symm, h.te.symm, h.lf.symm, h.ep.symm, h.ti.symm⟩
theorem ext_other {j : Nat} (s : LS) (k m : Int) (h : j ≠ k.toNat) : Same j (s.ext k m) s := ⟨rfl, rfl, rfl, rfl, upd_other _ _ _ _ h⟩
theorem born_other {j : Nat} (s : LS) (k m : Int) (h : j ≠ k.toNat) : Same j (s.born k m) s := ⟨rfl, rfl, upd_other _ _ _ _ h, upd_other _ _ _ _ h, rfl⟩
theorem hello_other {j : Nat} (s : LS) (k n t : Int) (h : (1 ≤ k ∧ k ≤ s.n) → j ≠ k.toNat) : Same j (s.hello k n t).1 s := by
  unfold LS.hello
  cases hb : s.badHello k n t with
  | true => exact Same.refl _ _
  | false =>
    have hj := h (hello_ok hb).1
    simp only [Bool.false_eq_true, if_false]
    by_cases c1 : n < s.life k.toNat
    · rw [if_pos c1]; exact Same.refl _ _
    · rw [if_neg c1]
      by_cases c2 : s.life k.toNat < n
      · rw [if_pos c2]; exact (ext_other _ k t hj).trans (born_other s k n hj)
      · rw [if_neg c2]; exact ext_other s k t hj
theorem seen_other {j : Nat} (s : LS) (k n t : Int) (h : (1 ≤ k ∧ k ≤ s.n) → j ≠ k.toNat) : Same j (s.seen k n t).1 s := by
  unfold LS.seen
  cases hb : s.okSeen k n t with
  | false => exact Same.refl _ _
  | true => exact ext_other s k t (h (seen_ok hb).1)
theorem act_other {j : Nat} (s : LS) (b : Bool) (k n t : Int) (h : (1 ≤ k ∧ k ≤ s.n) → j ≠ k.toNat) : Same j (s.act b k n t) s := by
  unfold LS.act
  cases b
  · exact hello_other s k n t h
  · exact seen_other s k n t h
theorem ext_same {a b : LS} {k : Int} (h : Same k.toNat a b) (m : Int) : Same k.toNat (a.ext k m) (b.ext k m) := by
  refine ⟨h.n, h.te, h.lf, h.ep, ?_⟩
  show upd a.till k.toNat _ k.toNat = upd b.till k.toNat _ k.toNat
  rw [upd_same, upd_same, h.ti, h.te]
theorem born_same {a b : LS} {k : Int} (h : Same k.toNat a b) (m : Int) : Same k.toNat (a.born k m) (b.born k m) := by
  refine ⟨h.n, h.te, ?_, ?_, h.ti⟩
  · show upd a.life k.toNat _ k.toNat = upd b.life k.toNat _ k.toNat
    rw [upd_same, upd_same]
  · show upd a.epoch k.toNat _ k.toNat = upd b.epoch k.toNat _ k.toNat
    rw [upd_same, upd_same, h.ep]
theorem act_same {a b : LS} {k : Int} (h : Same k.toNat a b) (z : Bool) (n t : Int) : Same k.toNat (a.act z k n t) (b.act z k n t) := by
  cases z
  · show Same k.toNat (a.hello k n t).1 (b.hello k n t).1
    unfold LS.hello LS.badHello LS.isW
    rw [h.n, h.lf]
    split
    · exact h
    · split
      · exact h
      · split
        · exact ext_same (born_same h n) t
        · exact ext_same h t
  · show Same k.toNat (a.seen k n t).1 (b.seen k n t).1
    unfold LS.seen LS.okSeen LS.isW
    rw [h.n, h.ep]
    split
    · exact ext_same h t
    · exact h

/-! ### An Act in a block of its own -/
def XAt (w : World) (g : Nat) (b : Bool) (u v t : Int) : Prop := w.heap[g]? = some (.cells #[.bool b, .int .i64 u, .int .i64 v, .int .i64 t] 43 (0, 0))
theorem xat_cells {w : World} {g : Nat} {b : Bool} {u v t : Int} (h : XAt w g b u v t) :
    w.cell? ⟨g, 0, none⟩ = some (.bool b) ∧ w.cell? ⟨g, 1, none⟩ = some (.int .i64 u) ∧ w.cell? ⟨g, 2, none⟩ = some (.int .i64 v) ∧ w.cell? ⟨g, 3, none⟩ = some (.int .i64 t) := by
  unfold XAt at h
  refine ⟨?_, ?_, ?_, ?_⟩ <;> simp [World.cell?, h]
theorem xat_lt {w : World} {g : Nat} {b : Bool} {u v t : Int} (h : XAt w g b u v t) : g < w.heap.size := lt_of_block h
theorem xat_new (w : World) (b : Bool) (u v t : Int) : XAt (w.alloc (.cells #[.bool b, .int .i64 u, .int .i64 v, .int .i64 t] 43 (0, 0))) w.heap.size b u v t := by
  unfold XAt
  show (w.heap.push _)[w.heap.size]? = _
  simp
theorem xat_grown {w w1 : World} {g r : Nat} {b : Bool} {u v t : Int} (h : XAt w g b u v t) (hg : w.grownBy w1 (some r)) (hne : g ≠ r) : XAt w1 g b u v t :=
  (hg.block g (xat_lt h) (fun e => hne (by injection e))).trans h
theorem isA_grown {w w1 : World} {g r : Nat} {s : LS} (h : IsA w g s) (hg : w.grownBy w1 (some r)) (hne : g ≠ r) : IsA w1 g s :=
  blk_keep h (hg.block g (blk_lt h) (fun e => hne (by injection e)))
theorem isA_alloc {w : World} {g : Nat} {s : LS} (h : IsA w g s) (o : Obj) : IsA (w.alloc o) g s := isA_below h (Joins.below_alloc1 w o)
theorem below_alloc0 {w wr : World} (h : Below w.heap.size w wr) (o : Obj) : Below w.heap.size w (wr.alloc o) := h.alloc h.size o

theorem new_calls2 (n term : Int) (h : okNew n term = true) (w : World) :
    Calls Try.prog 10 #[.int .i64 n, .int .i64 term] w fun e w' => ∃ g, e = .returned (.tuple #[.pointer (some ⟨g, 0, none⟩), .int .i64 0]) ∧ w.heap.size ≤ g ∧ IsA w' g (LS.init n term) ∧ Below w.heap.size w w' := by
  refine (new_calls n term h w).mono ?_
  rintro e w' ⟨rfl, hA, hb⟩
  exact ⟨w.heap.size, rfl, Nat.le_refl _, hA, hb⟩
theorem acts_at {w : World} {A : Option Addr} {len cap : Nat} {b : Nat → Bool} {u v t : Nat → Int} (h : ActsIn w A len cap b u v t) {w1 : World} (hb : Below w.heap.size w w1) (i : Nat) (hi : i < len) :
    ∃ ad, A = some ad ∧ w1.cell? (ad.add (i * 4)) = some (.bool (b i)) ∧ w1.cell? ⟨(ad.add (i * 4)).block, (ad.add (i * 4)).off + 1, none⟩ = some (.int .i64 (u i)) ∧ w1.cell? ⟨(ad.add (i * 4)).block, (ad.add (i * 4)).off + 2, none⟩ = some (.int .i64 (v i)) ∧ w1.cell? ⟨(ad.add (i * 4)).block, (ad.add (i * 4)).off + 3, none⟩ = some (.int .i64 (t i)) := by
  obtain ⟨ad, e, c0, c1, c2, c3⟩ := h.at0 i hi
  have key : ∀ (p : Addr) x, w.cell? p = some x → w1.cell? p = some x := by
    intro p x hc
    rw [hb.cell]
    · exact hc
    · unfold World.cell? at hc
      by_cases hl : p.block < w.heap.size
      · exact hl
      · rw [Array.getElem?_eq_none (by omega)] at hc
        simp at hc
  rw [← add_add] at c1 c2 c3
  exact ⟨ad, e, key _ _ c0, key _ _ c1, key _ _ c2, key _ _ c3⟩
end Go.Proofs.Ytjebpccoddcnjaa
