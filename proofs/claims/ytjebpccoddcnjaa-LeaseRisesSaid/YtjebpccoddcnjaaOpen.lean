/- The arguments that came in: an Act by value, rows of Acts and of Booleans, opened. -/
import Derived.Test.YtjebpccoddcnjaaCounts
import Derived.Lib.SmallJoins
import Derived.ChangeOld
import Derived.Carry
namespace Go.Proofs.Ytjebpccoddcnjaa
open Go.ChangeShapes Go.WideShapes Go.RowKit Go.Deep
set_option linter.unusedVariables false
set_option linter.unusedSimpArgs false

/-- A row of Acts that came in. -/
structure ActsIn (w : World) (A : Option Addr) (len cap : Nat) (b : Nat → Bool) (u v t : Nat → Int) : Prop where
  le : len ≤ cap
  mx : cap ≤ 9223372036854775807
  at0 : ∀ i, i < len → ∃ ad, A = some ad ∧ w.cell? (ad.add (i * 4)) = some (.bool (b i)) ∧ w.cell? (ad.add (i * 4 + 1)) = some (.int .i64 (u i)) ∧ w.cell? (ad.add (i * 4 + 2)) = some (.int .i64 (v i)) ∧ w.cell? (ad.add (i * 4 + 3)) = some (.int .i64 (t i))
  wf : ∀ i, i < len → (Lit.int .i64 (u i)).wf = true ∧ (Lit.int .i64 (v i)).wf = true ∧ (Lit.int .i64 (t i)).wf = true

theorem add_add (a : Addr) (i j : Nat) : (a.add i).add j = a.add (i + j) := by
  unfold Addr.add
  by_cases hi : i = 0
  · subst hi; simp
  · by_cases hj : j = 0
    · subst hj; simp
    · simp [hi, hj, Nat.add_assoc]

set_option maxRecDepth 100000 in
theorem open_acts {H : Type} {enc : TypeId × Value → H} {W : World} {a : Option Addr} {len cap : Nat} {d : DataW H} {p : List MemPlace}
    (h : DataW.Trod enc Try.prog W 0 (fun _ => true) true 37 (.slice a len cap) d p) : ∃ b u v t, ActsIn W a len cap b u v t := by
  obtain ⟨fuel, hf⟩ := h
  rcases open_slice Try.underlying37 hf with ⟨hcs, _⟩ | ⟨x, l, c, m, n, D, Pl, hcs, _, hl, hm, hmm, _, hel⟩
  · simp [Value.cells] at hcs
    obtain ⟨rfl, rfl, rfl⟩ := hcs
    exact ⟨fun _ => false, fun _ => 0, fun _ => 0, fun _ => 0, ⟨by omega, by omega, fun i hi => absurd hi (by omega), fun i hi => absurd hi (by omega)⟩⟩
  · simp [Value.cells] at hcs
    obtain ⟨rfl, rfl, rfl⟩ := hcs
    simp only [if_true] at hmm
    subst hmm
    have hc4 : Try.prog.cellsOf 43 = 4 := by kernel_rfl
    have key : ∀ i, ∃ (q : Bool × Int × Int × Int), i < len → W.cell? (x.add (i * 4)) = some (.bool q.1) ∧ W.cell? (x.add (i * 4 + 1)) = some (.int .i64 q.2.1) ∧ W.cell? (x.add (i * 4 + 2)) = some (.int .i64 q.2.2.1) ∧ W.cell? (x.add (i * 4 + 3)) = some (.int .i64 q.2.2.2) ∧ (Lit.int .i64 q.2.1).wf = true ∧ (Lit.int .i64 q.2.2.1).wf = true ∧ (Lit.int .i64 q.2.2.2).wf = true := by
      intro i
      by_cases hi : i < len
      · obtain ⟨cs, h1, h2⟩ := hel i (by omega)
        rw [hc4] at h1
        obtain ⟨_, hlen, hcell⟩ := World.cells?_some h1
        obtain ⟨y0, y1, y2, y3, n', _, _, g0, g1, g2, g3⟩ := Joins.trod_struct4 Try.underlying43 h2
        match cs, hlen with
        | [c0, c1, c2, c3], _ =>
        have e1 : Try.prog.cellsOf 3 = 1 := by kernel_rfl
        have e4 : Try.prog.cellsOf 4 = 1 := by kernel_rfl
        simp only [e1, e4] at g0 g1 g2 g3
        obtain ⟨b, k0, _⟩ := DataW.trod_bool Try.underlying4 g0
        obtain ⟨u, k1, _, w1⟩ := DataW.trod_int Try.underlying3 g1
        obtain ⟨v, k2, _, w2⟩ := DataW.trod_int Try.underlying3 g2
        obtain ⟨t, k3, _, w3⟩ := DataW.trod_int Try.underlying3 g3
        simp at k0 k1 k2 k3
        refine ⟨(b, u, v, t), fun _ => ?_⟩
        have z0 := hcell 0 (by omega)
        have z1 := hcell 1 (by omega)
        have z2 := hcell 2 (by omega)
        have z3 := hcell 3 (by omega)
        rw [add_add] at z0 z1 z2 z3
        simp only [List.getElem?_cons_zero, List.getElem?_cons_succ, k0, k1, k2, k3] at z0 z1 z2 z3
        exact ⟨z0, z1, z2, z3, w1, w2, w3⟩
      · exact ⟨(false, 0, 0, 0), fun h => absurd h hi⟩
    let q := fun i => Classical.choose (key i)
    have hq := fun i => Classical.choose_spec (key i)
    refine ⟨fun i => (q i).1, fun i => (q i).2.1, fun i => (q i).2.2.1, fun i => (q i).2.2.2, ⟨hl, hm, fun i hi => ?_, fun i hi => ?_⟩⟩
    · obtain ⟨r0, r1, r2, r3, _⟩ := hq i hi
      exact ⟨x, rfl, r0, r1, r2, r3⟩
    · obtain ⟨_, _, _, _, r⟩ := hq i hi
      exact r

theorem open_act {H : Type} {enc : TypeId × Value → H} {W : World} {r : Reach} {b0 : Nat} {x : Value} {d : DataW H} {p : List MemPlace} (hv : Value.okWide Try.prog W r b0 43 x)
    (h : DataW.Trod enc Try.prog W 0 (fun _ => true) true 43 x d p) : ∃ b u v t, x = .agg #[.bool b, .int .i64 u, .int .i64 v, .int .i64 t] := by
  obtain ⟨c0, c1, c2, c3, y0, y1, y2, y3, n, rfl, _, _, g0, g1, g2, g3⟩ := Joins.open_agg4 Try.underlying43 (by kernel_rfl) (by kernel_rfl) hv h
  obtain ⟨b, k0, _⟩ := DataW.trod_bool Try.underlying4 g0
  obtain ⟨u, k1, _, w1⟩ := DataW.trod_int Try.underlying3 g1
  obtain ⟨v, k2, _, w2⟩ := DataW.trod_int Try.underlying3 g2
  obtain ⟨t, k3, _, w3⟩ := DataW.trod_int Try.underlying3 g3
  simp at k0 k1 k2 k3
  exact ⟨b, u, v, t, by rw [k0, k1, k2, k3]⟩

/-- A row of Booleans that came in. -/
structure BoolsIn (w : World) (A : Option Addr) (len cap : Nat) (b : Nat → Bool) : Prop where
  le : len ≤ cap
  mx : cap ≤ 9223372036854775807
  rd : Rd w A len (fun i => .bool (b i))
theorem open_bools {H : Type} {enc : TypeId × Value → H} {W : World} {a : Option Addr} {len cap : Nat} {d : DataW H} {p : List MemPlace}
    (h : DataW.Trod enc Try.prog W 0 (fun _ => true) true 33 (.slice a len cap) d p) : ∃ b, BoolsIn W a len cap b := by
  obtain ⟨fuel, hf⟩ := h
  rcases open_slice1 Try.underlying33 (by kernel_rfl) hf with ⟨hcs, _⟩ | ⟨x, l, c, m, n, V, D, Pl, hcs, _, hl, hm, hmm, _, hel⟩
  · simp [Value.cells] at hcs
    obtain ⟨rfl, rfl, rfl⟩ := hcs
    exact ⟨fun _ => false, ⟨by omega, by omega, fun i hi => absurd hi (by omega)⟩⟩
  · simp [Value.cells] at hcs
    obtain ⟨rfl, rfl, rfl⟩ := hcs
    simp only [if_true] at hmm
    subst hmm
    have key : ∀ i, ∃ b : Bool, i < len → W.cell? (x.add i) = some (.bool b) := by
      intro i
      by_cases hi : i < len
      · obtain ⟨h1, h2⟩ := hel i (by omega)
        obtain ⟨b, k0, _⟩ := DataW.trod_bool Try.underlying4 h2
        simp at k0
        exact ⟨b, fun _ => by rw [h1, k0]⟩
      · exact ⟨false, fun h => absurd h hi⟩
    exact ⟨fun i => Classical.choose (key i), ⟨hl, hm, fun i hi => ⟨x, rfl, Classical.choose_spec (key i) hi⟩⟩⟩
end Go.Proofs.Ytjebpccoddcnjaa
