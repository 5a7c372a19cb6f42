/- An Act in a block of its own; Free of who has a slot, of nobody. -/
import Derived.Test.YtimndkjgagdphaaLeast
import Derived.Test.YtimndkjgagdphaaGreat
namespace Go.Proofs.Ytimndkjgagdphaa
open Go.RowKit
set_option linter.unusedVariables false
set_option linter.unusedSimpArgs false

abbrev actObj (v : AV) : Obj := .cells #[.bool v.b, .int .i64 v.id, .string v.q, .int .i64 v.k, .int .i64 v.n] 34 (0, 0)
def XAt (w : World) (g : Nat) (v : AV) : Prop := w.heap[g]? = some (actObj v)
theorem xat_cells {w : World} {g : Nat} {v : AV} (h : XAt w g v) :
    w.cell? ⟨g, 0, none⟩ = some (.bool v.b) ∧ w.cell? ⟨g, 1, none⟩ = some (.int .i64 v.id) ∧ w.cell? ⟨g, 2, none⟩ = some (.string v.q) ∧ w.cell? ⟨g, 3, none⟩ = some (.int .i64 v.k) ∧ w.cell? ⟨g, 4, none⟩ = some (.int .i64 v.n) := by
  unfold XAt at h
  refine ⟨?_, ?_, ?_, ?_, ?_⟩ <;> simp [World.cell?, h]
theorem xat_new (w : World) (v : AV) : XAt (w.alloc (actObj v)) w.heap.size v := new_block w _
theorem xat_chg {w w1 : World} {g lo hi : Nat} {v : AV} (h : XAt w g v) (hc : Chg lo hi w w1) (hg : g < lo ∨ hi ≤ g) : XAt w1 g v := (hc.block g (lt_of_block h) hg).trans h
theorem xat_below {w w1 : World} {g : Nat} {v : AV} (h : XAt w g v) (hb : Below w.heap.size w w1) : XAt w1 g v := (hb.block g (lt_of_block h)).trans h

theorem free_absent (h : Nat) (s : SS) (id : Int) (hf : s.find id = none) (w : World) (hS : IsS w h s) :
    Calls Try.prog 11 #[.pointer (some ⟨h + 2, 0, none⟩), .int .i64 id] w fun e w' => e = .returned (.bool false) ∧ IsS w' h s ∧ Chg h (h + 3) w w' := by
  have := free_calls h s id w hS
  rw [hf, free_none hf] at this
  exact this
theorem free_slot (h : Nat) (s : SS) (y : Int) (w : World) (hS : IsS w h s) :
    Calls Try.prog 11 #[.pointer (some ⟨h + 2, 0, none⟩), .int .i64 (s.who y)] w fun e w' => e = .returned (.bool (decide (0 < s.who y))) ∧ IsS w' h (s.free (s.who y)) ∧ Chg h (h + 3) w w' := by
  have := free_calls h s (s.who y) w hS
  rw [find_who hS.wf] at this
  exact this
theorem find_new {s : SS} (h : WFs s) : s.find (s.last + 1) = none := by
  cases hf : s.find (s.last + 1) with
  | none => rfl
  | some k =>
    obtain ⟨h1, h2⟩ := (find_iff h _ k).1 hf
    have := h.wh k (by rw [h2]; exact h1)
    omega
theorem find_zero (s : SS) : s.find 0 = none := rfl

/-- How many of the first k are busy. -/
def pc (f : Int → Int) : Nat → Nat
  | 0 => 0
  | k + 1 => pc f k + b1 (f k)
theorem pc_cnt (s : SS) : pc s.who 4 = s.cnt := by
  unfold SS.cnt
  simp [pc]
theorem pc_le (f : Int → Int) : ∀ k, pc f k ≤ k
  | 0 => Nat.le_refl _
  | k + 1 => by
    have := pc_le f k
    have : b1 (f k) ≤ 1 := by unfold b1; split <;> omega
    show pc f k + b1 (f k) ≤ k + 1
    omega
end Go.Proofs.Ytimndkjgagdphaa
