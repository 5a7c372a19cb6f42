/- The law's own array of who has each slot; what the plain state says of it. -/
import Derived.Test.YtimndkjgagdphaaOpen
namespace Go.Proofs.Ytimndkjgagdphaa
open Go.RowKit
set_option linter.unusedVariables false
set_option linter.unusedSimpArgs false

def Wa (w : World) (g : Nat) (f : Int → Int) : Prop := w.heap[g]? = some (.cells #[.int .i64 (f 0), .int .i64 (f 1), .int .i64 (f 2), .int .i64 (f 3)] 30 (0, 0))
theorem wa_cell {w : World} {g : Nat} {f : Int → Int} (h : Wa w g f) (k : Int) (h0 : 0 ≤ k) (h1 : k < 4) : w.cell? ⟨g, k.toNat, none⟩ = some (.int .i64 (f k)) := by
  unfold Wa at h
  have : k = 0 ∨ k = 1 ∨ k = 2 ∨ k = 3 := by omega
  rcases this with rfl | rfl | rfl | rfl <;> simp [World.cell?, h]
theorem wa_free {w : World} {g : Nat} {f : Int → Int} (h : Wa w g f) (k : Nat) : w.frozen? ⟨g, k, none⟩ = false := by
  unfold Wa at h
  simp [World.frozen?, h]
theorem wa_lt {w : World} {g : Nat} {f : Int → Int} (h : Wa w g f) : g < w.heap.size := lt_of_block h
theorem wa_set {w : World} {g : Nat} {f : Int → Int} (h : Wa w g f) (k v : Int) (h0 : 0 ≤ k) (h1 : k < 4) : Wa (w.setCell ⟨g, k.toNat, none⟩ (.int .i64 v)) g (fun j => if j = k then v else f j) := by
  have hlt := lt_of_block h
  have h' : w.heap[g] = .cells #[.int .i64 (f 0), .int .i64 (f 1), .int .i64 (f 2), .int .i64 (f 3)] 30 (0, 0) := by simpa [Wa, Array.getElem?_eq_getElem hlt] using h
  show (w.heap.modify g _)[g]? = _
  rw [Array.getElem?_eq_getElem (by simpa using hlt), Array.getElem_modify_self, h']
  have : k = 0 ∨ k = 1 ∨ k = 2 ∨ k = 3 := by omega
  rcases this with rfl | rfl | rfl | rfl <;> rfl
theorem wa_chg {w w1 : World} {g lo hi : Nat} {f : Int → Int} (h : Wa w g f) (hc : Chg lo hi w w1) (hg : g < lo ∨ hi ≤ g) : Wa w1 g f := (hc.block g (lt_of_block h) hg).trans h
theorem wa_below {w w1 : World} {g : Nat} {f : Int → Int} (h : Wa w g f) (hb : Below w.heap.size w w1) : Wa w1 g f := (hb.block g (lt_of_block h)).trans h
theorem isS_set {w : World} {h g : Nat} {s : SS} (hS : IsS w h s) (k : Nat) (v : Value) (hg : g < h ∨ h + 3 ≤ g) : IsS (w.setCell ⟨g, k, none⟩ v) h s :=
  isS_chg hS (chg_grown (lo := g) (hi := g + 1) (grown_set0 w ⟨g, k, none⟩ v) (Nat.le_refl _) (Nat.lt_succ_self _)) (by omega)
theorem below_set {w wr : World} (h : Below w.heap.size w wr) {g : Nat} (k : Nat) (v : Value) (hg : w.heap.size ≤ g) : Below w.heap.size w (wr.setCell ⟨g, k, none⟩ v) := h.setCell hg v

theorem full_all {s : SS} (h : WFs s) (hc : (s.cnt : Int) = s.most) (j : Int) (h0 : 0 ≤ j) (h1 : j < s.most) : s.who j ≠ 0 := by
  have hm0 := h.m0
  have hm1 := h.m1
  have le1 : ∀ x, b1 x ≤ 1 := fun x => by unfold b1; split <;> omega
  have a0 := le1 (s.who 0)
  have a1 := le1 (s.who 1)
  have a2 := le1 (s.who 2)
  have a3 := le1 (s.who 3)
  have o1 : s.most ≤ 1 → b1 (s.who 1) = 0 := fun hh => b1_zero (who_out h 1 (.inr hh))
  have o2 : s.most ≤ 2 → b1 (s.who 2) = 0 := fun hh => b1_zero (who_out h 2 (.inr hh))
  have o3 : s.most ≤ 3 → b1 (s.who 3) = 0 := fun hh => b1_zero (who_out h 3 (.inr hh))
  unfold SS.cnt at hc
  intro hz
  have hb := b1_zero hz
  have : j = 0 ∨ j = 1 ∨ j = 2 ∨ j = 3 := by omega
  rcases this with rfl | rfl | rfl | rfl <;> omega
theorem who_nonneg {s : SS} (h : WFs s) (k : Int) : 0 ≤ s.who k := by
  by_cases hk : s.who k = 0
  · omega
  · have := h.wh k hk; omega
theorem find_who {s : SS} (h : WFs s) (y : Int) : (s.find (s.who y)).isSome = decide (0 < s.who y) := by
  by_cases hy : s.who y = 0
  · rw [hy]; rfl
  · rw [(find_iff h (s.who y) y).2 ⟨hy, rfl⟩]
    have := h.wh y hy
    rw [decide_eq_true (by omega)]; rfl
theorem free_who {s : SS} (h : WFs s) (y : Int) : (s.free (s.who y)).who = fun k => if k = y then 0 else s.who k := by
  funext k
  show (if s.find (s.who y) = some k then 0 else s.who k) = if k = y then 0 else s.who k
  by_cases hy : s.who y = 0
  · have e : s.find (s.who y) = none := by rw [hy]; rfl
    rw [e, if_neg (by simp)]
    by_cases hk : k = y
    · rw [if_pos hk, hk, hy]
    · rw [if_neg hk]
  · rw [(find_iff h (s.who y) y).2 ⟨hy, rfl⟩]
    by_cases hk : k = y
    · rw [if_pos (by rw [hk]), if_pos hk]
    · rw [if_neg (fun e => hk (by injection e with e; exact e.symm)), if_neg hk]
end Go.Proofs.Ytimndkjgagdphaa
