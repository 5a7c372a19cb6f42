/- The arguments that came in: an Act by value, rows of Acts, opened. -/
import Derived.Test.YtimndkjgagdphaaAwake
import Derived.Lib.SmallJoins
import Derived.ChangeOld
import Derived.Carry
namespace Go.Proofs.Ytimndkjgagdphaa
open Go.ChangeShapes Go.WideShapes Go.RowKit Go.Deep
set_option linter.unusedVariables false
set_option linter.unusedSimpArgs false

/-- What an Act reads as. -/
structure AV where
  b : Bool
  id : Int
  q : ByteArray
  k : Int
  n : Int

theorem list5 {α : Type} {l : List α} (h : l.length = 5) : ∃ a b c d e, l = [a, b, c, d, e] := by
  match l, h with
  | [a, b, c, d, e], _ => exact ⟨a, b, c, d, e, rfl⟩

set_option maxRecDepth 100000 in
theorem act_cells {H : Type} {enc : TypeId × Value → H} {W : World} {spare : Nat → Bool} {fuel : Nat} {cs : List Value} {x : DataW H × List MemPlace}
    (h : DataW.trod enc Try.prog W 0 spare true fuel 34 cs = some x) : ∃ v : AV, cs = [.bool v.b, .int .i64 v.id, .string v.q, .int .i64 v.k, .int .i64 v.n] ∧ (Lit.int .i64 v.id).wf = true ∧ v.q.size ≤ maxLen := by
  obtain ⟨y0, y1, y2, n', _, hl, g0, g1, g2⟩ := trod_struct3 Try.underlying34 h
  have e34 : Try.prog.cellsOf 34 = 5 := by kernel_rfl
  have e32 : Try.prog.cellsOf 32 = 3 := by kernel_rfl
  have e3 : Try.prog.cellsOf 3 = 1 := by kernel_rfl
  have e4 : Try.prog.cellsOf 4 = 1 := by kernel_rfl
  have e9 : Try.prog.cellsOf 9 = 1 := by kernel_rfl
  rw [e34] at hl
  obtain ⟨c0, c1, c2, c3, c4, rfl⟩ := list5 hl
  simp only [e3, e4, e32] at g0 g1 g2
  obtain ⟨b, k0, _⟩ := DataW.trod_bool Try.underlying4 g0
  obtain ⟨u, k1, _, w1⟩ := DataW.trod_int Try.underlying3 g1
  simp at k0 k1 g2
  obtain ⟨z0, z1, z2, n'', _, _, f0, f1, f2⟩ := trod_struct3 Try.underlying32 g2
  simp only [e3, e9] at f0 f1 f2
  obtain ⟨q, k2, _, wq⟩ := DataW.trod_string Try.underlying9 f0
  obtain ⟨k, k3, _, w3⟩ := DataW.trod_int Try.underlying3 f1
  obtain ⟨n, k4, _, w4⟩ := DataW.trod_int Try.underlying3 f2
  simp at k2 k3 k4
  exact ⟨⟨b, u, q, k, n⟩, by rw [k0, k1, k2, k3, k4], w1, wq⟩

theorem open_act {H : Type} {enc : TypeId × Value → H} {W : World} {r : Reach} {b0 : Nat} {x : Value} {d : DataW H} {p : List MemPlace} (hv : Value.okWide Try.prog W r b0 34 x)
    (h : DataW.Trod enc Try.prog W 0 (fun _ => true) true 34 x d p) : ∃ v : AV, x = .agg #[.bool v.b, .int .i64 v.id, .string v.q, .int .i64 v.k, .int .i64 v.n] := by
  obtain ⟨cs, rfl, hsz⟩ := okWide_struct Try.underlying34 hv
  obtain ⟨fuel, hf⟩ := h
  obtain ⟨v, hc, _⟩ := act_cells hf
  refine ⟨v, ?_⟩
  have : cs.toList = [.bool v.b, .int .i64 v.id, .string v.q, .int .i64 v.k, .int .i64 v.n] := by simpa [Value.cells] using hc
  rw [← Array.toArray_toList (xs := cs), this]

/-- A row of Acts that came in. -/
structure ActsIn (w : World) (A : Option Addr) (len cap : Nat) (v : Nat → AV) : Prop where
  le : len ≤ cap
  mx : cap ≤ 9223372036854775807
  at0 : ∀ i, i < len → ∃ ad, A = some ad ∧ w.cell? (ad.add (i * 5)) = some (.bool (v i).b) ∧ w.cell? ((ad.add (i * 5)).add 1) = some (.int .i64 (v i).id) ∧ w.cell? ((ad.add (i * 5)).add 2) = some (.string (v i).q) ∧ w.cell? ((ad.add (i * 5)).add 3) = some (.int .i64 (v i).k) ∧ w.cell? ((ad.add (i * 5)).add 4) = some (.int .i64 (v i).n)

set_option maxRecDepth 100000 in
theorem open_acts {H : Type} {enc : TypeId × Value → H} {W : World} {a : Option Addr} {len cap : Nat} {d : DataW H} {p : List MemPlace}
    (h : DataW.Trod enc Try.prog W 0 (fun _ => true) true 22 (.slice a len cap) d p) : ∃ v, ActsIn W a len cap v := by
  obtain ⟨fuel, hf⟩ := h
  rcases open_slice Try.underlying22 hf with ⟨hcs, _⟩ | ⟨x, l, c, m, n, D, Pl, hcs, _, hl, hm, hmm, _, hel⟩
  · simp [Value.cells] at hcs
    obtain ⟨rfl, rfl, rfl⟩ := hcs
    exact ⟨fun _ => ⟨false, 0, ⟨#[]⟩, 0, 0⟩, ⟨by omega, by omega, fun i hi => absurd hi (by omega)⟩⟩
  · simp [Value.cells] at hcs
    obtain ⟨rfl, rfl, rfl⟩ := hcs
    simp only [if_true] at hmm
    subst hmm
    have hc5 : Try.prog.cellsOf 34 = 5 := by kernel_rfl
    have key : ∀ i, ∃ v : AV, i < len → W.cell? (x.add (i * 5)) = some (.bool v.b) ∧ W.cell? ((x.add (i * 5)).add 1) = some (.int .i64 v.id) ∧ W.cell? ((x.add (i * 5)).add 2) = some (.string v.q) ∧ W.cell? ((x.add (i * 5)).add 3) = some (.int .i64 v.k) ∧ W.cell? ((x.add (i * 5)).add 4) = some (.int .i64 v.n) := by
      intro i
      by_cases hi : i < len
      · obtain ⟨cs, h1, h2⟩ := hel i (by omega)
        rw [hc5] at h1
        obtain ⟨_, hlen, hcell⟩ := World.cells?_some h1
        obtain ⟨v, rfl, _⟩ := act_cells h2
        exact ⟨v, fun _ => ⟨hcell 0 (by omega), hcell 1 (by omega), hcell 2 (by omega), hcell 3 (by omega), hcell 4 (by omega)⟩⟩
      · exact ⟨⟨false, 0, ⟨#[]⟩, 0, 0⟩, fun h => absurd h hi⟩
    exact ⟨fun i => Classical.choose (key i), ⟨hl, hm, fun i hi => ⟨x, rfl, Classical.choose_spec (key i) hi⟩⟩⟩

theorem acts_at {w : World} {A : Option Addr} {len cap : Nat} {v : Nat → AV} (h : ActsIn w A len cap v) {w1 : World} (hb : Below w.heap.size w w1) (i : Nat) (hi : i < len) :
    ∃ ad, A = some ad ∧ w1.cell? (ad.add (i * 5)) = some (.bool (v i).b) ∧ w1.cell? ⟨(ad.add (i * 5)).block, (ad.add (i * 5)).off + 1, none⟩ = some (.int .i64 (v i).id) ∧ w1.cell? ⟨(ad.add (i * 5)).block, (ad.add (i * 5)).off + 2, none⟩ = some (.string (v i).q) ∧ w1.cell? ⟨(ad.add (i * 5)).block, (ad.add (i * 5)).off + 3, none⟩ = some (.int .i64 (v i).k) ∧ w1.cell? ⟨(ad.add (i * 5)).block, (ad.add (i * 5)).off + 4, none⟩ = some (.int .i64 (v i).n) := by
  obtain ⟨ad, e, c0, c1, c2, c3, c4⟩ := h.at0 i hi
  have key : ∀ (p : Addr) x, w.cell? p = some x → w1.cell? p = some x := by
    intro p x hc
    rw [hb.cell]
    · exact hc
    · unfold World.cell? at hc
      by_cases hl : p.block < w.heap.size
      · exact hl
      · rw [Array.getElem?_eq_none (by omega)] at hc
        simp at hc
  exact ⟨ad, e, key _ _ c0, key _ _ c1, key _ _ c2, key _ _ c3, key _ _ c4⟩
end Go.Proofs.Ytimndkjgagdphaa
