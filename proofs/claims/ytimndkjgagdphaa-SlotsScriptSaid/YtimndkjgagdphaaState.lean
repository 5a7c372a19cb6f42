/- The state of slots: who has each; the walks of Of, At, Count, Last. -/
import Derived.Test.YtimndkjgagdphaaMaps
import Derived.Test.YtimndkjgagdphaaLen
import Derived.Deep.Draws
import Derived.BigRegion
import Derived.BigQuiet
namespace Go.Proofs.Ytimndkjgagdphaa
open Go.RowKit
set_option linter.unusedVariables false
set_option linter.unusedSimpArgs false

structure SS where
  most : Int
  last : Int
  who : Int → Int
def b1 (x : Int) : Nat := if x = 0 then 0 else 1
def SS.cnt (s : SS) : Nat := b1 (s.who 0) + b1 (s.who 1) + b1 (s.who 2) + b1 (s.who 3)
structure WFs (s : SS) : Prop where
  m0 : 1 ≤ s.most
  m1 : s.most ≤ 4
  l0 : 0 ≤ s.last
  l1 : s.last ≤ 1000
  wh : ∀ k, s.who k ≠ 0 → 0 ≤ k ∧ k < s.most ∧ 1 ≤ s.who k ∧ s.who k ≤ s.last
  inj : ∀ a b, s.who a ≠ 0 → s.who a = s.who b → a = b
def SS.find (s : SS) (id : Int) : Option Int :=
  if id = 0 then none else if s.who 0 = id then some 0 else if s.who 1 = id then some 1 else if s.who 2 = id then some 2 else if s.who 3 = id then some 3 else none
theorem find_iff {s : SS} (h : WFs s) (id k : Int) : s.find id = some k ↔ (id ≠ 0 ∧ s.who k = id) := by
  unfold SS.find
  constructor
  · intro hf
    split at hf
    · cases hf
    · rename_i h0
      split at hf
      · rename_i h1; injection hf with hf; subst hf; exact ⟨h0, h1⟩
      · split at hf
        · rename_i h1; injection hf with hf; subst hf; exact ⟨h0, h1⟩
        · split at hf
          · rename_i h1; injection hf with hf; subst hf; exact ⟨h0, h1⟩
          · split at hf
            · rename_i h1; injection hf with hf; subst hf; exact ⟨h0, h1⟩
            · cases hf
  · rintro ⟨h0, h1⟩
    have hne : s.who k ≠ 0 := by rw [h1]; exact h0
    obtain ⟨k0, k1, _, _⟩ := h.wh k hne
    have m1 := h.m1
    rw [if_neg h0]
    have hj : ∀ a, s.who a = id → a = k := fun a ha => h.inj a k (by rw [ha]; exact h0) (by rw [ha, h1])
    by_cases a0 : s.who 0 = id
    · rw [if_pos a0, hj 0 a0]
    · rw [if_neg a0]
      by_cases a1 : s.who 1 = id
      · rw [if_pos a1, hj 1 a1]
      · rw [if_neg a1]
        by_cases a2 : s.who 2 = id
        · rw [if_pos a2, hj 2 a2]
        · rw [if_neg a2]
          by_cases a3 : s.who 3 = id
          · rw [if_pos a3, hj 3 a3]
          · exfalso
            have : k = 0 ∨ k = 1 ∨ k = 2 ∨ k = 3 := by omega
            rcases this with rfl | rfl | rfl | rfl
            · exact a0 h1
            · exact a1 h1
            · exact a2 h1
            · exact a3 h1

/-- Slots in three blocks from h on. -/
structure IsS (w : World) (h : Nat) (s : SS) : Prop where
  wf : WFs s
  st : w.heap[h + 2]? = some (.cells #[.int .i64 s.most, .int .i64 s.last, .map (some h), .map (some (h + 1))] 55 (0, 0))
  of : ∃ m, MapI w h m s.cnt ∧ ∀ id k, m id = some k ↔ (id ≠ 0 ∧ s.who k = id)
  at' : ∃ m n, MapI w (h + 1) m n ∧ ∀ k id, m k = some id ↔ (id ≠ 0 ∧ s.who k = id)

/-- Only blocks from lo to below hi have changed, and there are new ones. -/
structure Chg (lo hi : Nat) (w w' : World) : Prop where
  os : w'.os = w.os
  tape : w'.tape = w.tape
  output : w'.output = w.output
  size : w.heap.size ≤ w'.heap.size
  block : ∀ k, k < w.heap.size → (k < lo ∨ hi ≤ k) → w'.heap[k]? = w.heap[k]?
theorem Chg.refl (lo hi : Nat) (w : World) : Chg lo hi w w := ⟨rfl, rfl, rfl, Nat.le_refl _, fun _ _ _ => rfl⟩
theorem Chg.trans {lo hi : Nat} {a b c : World} (h : Chg lo hi a b) (k : Chg lo hi b c) : Chg lo hi a c :=
  ⟨k.os.trans h.os, k.tape.trans h.tape, k.output.trans h.output, Nat.le_trans h.size k.size, fun i hi' hne => (k.block i (Nat.lt_of_lt_of_le hi' h.size) hne).trans (h.block i hi' hne)⟩
theorem chg_grown {lo hi g : Nat} {w w' : World} (h : w.grownBy w' (some g)) (h0 : lo ≤ g) (h1 : g < hi) : Chg lo hi w w' :=
  ⟨h.os, h.tape, h.output, h.size, fun k hk hne => h.block k hk (fun e => by injection e with e; omega)⟩
theorem chg_below {lo hi : Nat} {w w' : World} (h : Below w.heap.size w w') : Chg lo hi w w' :=
  ⟨h.os, h.tape, h.output, h.size, fun k hk _ => h.block k hk⟩
theorem below_chg {lo hi : Nat} {w w1 w2 : World} (h : Below w.heap.size w w1) (k : Chg lo hi w1 w2) (hl : w.heap.size ≤ lo) : Below w.heap.size w w2 :=
  ⟨k.os.trans h.os, k.tape.trans h.tape, k.output.trans h.output, Nat.le_trans h.size k.size, fun i hi' => (k.block i (Nat.lt_of_lt_of_le hi' h.size) (.inl (Nat.lt_of_lt_of_le hi' hl))).trans (h.block i hi')⟩
theorem isS_lt {w : World} {h : Nat} {s : SS} (hS : IsS w h s) : h + 2 < w.heap.size := lt_of_block hS.st
theorem isS_keep {w w1 : World} {h : Nat} {s : SS} (hS : IsS w h s) (h0 : w1.heap[h]? = w.heap[h]?) (h1 : w1.heap[h + 1]? = w.heap[h + 1]?) (h2 : w1.heap[h + 2]? = w.heap[h + 2]?) : IsS w1 h s := by
  obtain ⟨m, a, b⟩ := hS.of
  obtain ⟨m', n', a', b'⟩ := hS.at'
  exact ⟨hS.wf, h2.trans hS.st, ⟨m, mapI_keep a h0, b⟩, ⟨m', n', mapI_keep a' h1, b'⟩⟩
theorem isS_below {w w1 : World} {h : Nat} {s : SS} (hS : IsS w h s) (hb : Below w.heap.size w w1) : IsS w1 h s := by
  have := isS_lt hS
  exact isS_keep hS (hb.block _ (by omega)) (hb.block _ (by omega)) (hb.block _ this)
theorem isS_chg {w w1 : World} {h lo hi : Nat} {s : SS} (hS : IsS w h s) (hb : Chg lo hi w w1) (hd : h + 3 ≤ lo ∨ hi ≤ h) : IsS w1 h s := by
  have := isS_lt hS
  exact isS_keep hS (hb.block _ (by omega) (by omega)) (hb.block _ (by omega) (by omega)) (hb.block _ this (by omega))
theorem isS_drewN {w : World} {h : Nat} {s : SS} (hS : IsS w h s) (n : Nat) : IsS (w.drewN n) h s := isS_keep hS rfl rfl rfl
theorem isS_drew {w : World} {h : Nat} {s : SS} (hS : IsS w h s) : IsS w.drew h s := isS_keep hS rfl rfl rfl
theorem isS_cells {w : World} {h : Nat} {s : SS} (hS : IsS w h s) :
    w.cell? ⟨h + 2, 0, none⟩ = some (.int .i64 s.most) ∧ w.cell? ⟨h + 2, 1, none⟩ = some (.int .i64 s.last) ∧ w.cell? ⟨h + 2, 2, none⟩ = some (.map (some h)) ∧ w.cell? ⟨h + 2, 3, none⟩ = some (.map (some (h + 1))) ∧ w.frozen? ⟨h + 2, 1, none⟩ = false := by
  have := hS.st
  refine ⟨?_, ?_, ?_, ?_, ?_⟩
  · simp [World.cell?, this]
  · simp [World.cell?, this]
  · simp [World.cell?, this]
  · simp [World.cell?, this]
  · simp [World.frozen?, this]
theorem zero3 (u : World) : (zeroValue 3).run Try.prog u = .ok (.int .i64 0) u := by kernel_rfl

/-- What the map 'of' answers. -/
theorem look_of {w : World} {h : Nat} {s : SS} (hS : IsS w h s) (id : Int) :
    (Instr.lookup 53 (.map (some h)) (.int .i64 id) true).run Try.prog w = .ok (.tuple #[.int .i64 ((s.find id).getD 0), .bool (s.find id).isSome]) w := by
  obtain ⟨m, hm, hi⟩ := hS.of
  have e : m id = s.find id := by
    cases hf : s.find id with
    | some k => exact (hi id k).2 ((find_iff hS.wf id k).1 hf)
    | none =>
      cases hg : m id with
      | none => rfl
      | some k => rw [(find_iff hS.wf id k).2 ((hi id k).1 hg)] at hf; cases hf
  have := lookup_ok Try.underlying53 Try.underlying3 (zero3 w) hm id
  rw [e] at this
  exact this
theorem at_val {w : World} {h : Nat} {s : SS} (hS : IsS w h s) {m : Int → Option Int} (hi : ∀ k id, m k = some id ↔ (id ≠ 0 ∧ s.who k = id)) (k : Int) : m k = if s.who k = 0 then none else some (s.who k) := by
  by_cases h0 : s.who k = 0
  · rw [if_pos h0]
    cases hg : m k with
    | none => rfl
    | some id =>
      have := (hi k id).1 hg
      exact absurd (this.2 ▸ h0) this.1
  · rw [if_neg h0]
    exact (hi k _).2 ⟨h0, rfl⟩
theorem look_at {w : World} {h : Nat} {s : SS} (hS : IsS w h s) (k : Int) :
    (Instr.lookup 53 (.map (some (h + 1))) (.int .i64 k) true).run Try.prog w = .ok (.tuple #[.int .i64 (s.who k), .bool (decide (s.who k ≠ 0))]) w ∧
    (Instr.lookup 53 (.map (some (h + 1))) (.int .i64 k) false).run Try.prog w = .ok (.int .i64 (s.who k)) w := by
  obtain ⟨m, n, hm, hi⟩ := hS.at'
  have e := at_val hS hi k
  have a := lookup_ok Try.underlying53 Try.underlying3 (zero3 w) hm k
  have b := lookup_one Try.underlying53 Try.underlying3 (zero3 w) hm k
  rw [e] at a b
  by_cases h0 : s.who k = 0
  · rw [if_pos h0] at a b
    rw [h0]
    exact ⟨a, b⟩
  · rw [if_neg h0] at a b
    rw [decide_eq_true h0]
    exact ⟨a, b⟩
theorem len_of {w : World} {h : Nat} {s : SS} (hS : IsS w h s) (ty : TypeId) : (Builtin.len_ #[53] ty #[.map (some h)]).run Try.prog w = .ok (.int .i64 s.cnt) w := by
  obtain ⟨m, hm, hi⟩ := hS.of
  exact len_map Try.underlying53 hm ty

set_option maxRecDepth 100000 in
theorem of_calls (h : Nat) (s : SS) (id : Int) (w : World) (hS : IsS w h s) :
    Calls Try.prog 19 #[.pointer (some ⟨h + 2, 0, none⟩), .int .i64 id] w fun e w' => e = .returned (.tuple #[.int .i64 ((s.find id).getD 0), .bool (s.find id).isSome]) ∧ w = w' := by
  obtain ⟨c0, c1, c2, c3, f1⟩ := isS_cells hS
  have hl := look_of hS id
  clear hS
  generalize s.find id = r at *
  go_enter Try.func19, Try.ntmps19
  go_wp2_with fail
  go_ret2
  exact ⟨rfl, rfl⟩
set_option maxRecDepth 100000 in
theorem at_calls (h : Nat) (s : SS) (k : Int) (w : World) (hS : IsS w h s) :
    Calls Try.prog 21 #[.pointer (some ⟨h + 2, 0, none⟩), .int .i64 k] w fun e w' => e = .returned (.tuple #[.int .i64 (s.who k), .bool (decide (s.who k ≠ 0))]) ∧ w = w' := by
  obtain ⟨c0, c1, c2, c3, f1⟩ := isS_cells hS
  have hl := (look_at hS k).1
  clear hS
  generalize decide (s.who k ≠ 0) = b at *
  generalize s.who k = r at *
  go_enter Try.func21, Try.ntmps21
  go_wp2_with fail
  go_ret2
  exact ⟨rfl, rfl⟩
set_option maxRecDepth 100000 in
theorem count_calls (h : Nat) (s : SS) (w : World) (hS : IsS w h s) :
    Calls Try.prog 22 #[.pointer (some ⟨h + 2, 0, none⟩)] w fun e w' => e = .returned (.int .i64 s.cnt) ∧ w = w' := by
  obtain ⟨c0, c1, c2, c3, f1⟩ := isS_cells hS
  have hl := fun ty => len_of hS ty
  clear hS
  generalize s.cnt = r at *
  go_enter Try.func22, Try.ntmps22
  go_wp2_with fail
  go_ret
  exact ⟨rfl, rfl⟩
set_option maxRecDepth 100000 in
theorem last_calls (h : Nat) (s : SS) (w : World) (hS : IsS w h s) :
    Calls Try.prog 14 #[.pointer (some ⟨h + 2, 0, none⟩)] w fun e w' => e = .returned (.int .i64 s.last) ∧ w = w' := by
  obtain ⟨c0, c1, c2, c3, f1⟩ := isS_cells hS
  clear hS
  go_enter Try.func14, Try.ntmps14
  go_wp2_with fail
  go_ret
  exact ⟨rfl, rfl⟩
end Go.Proofs.Ytimndkjgagdphaa
