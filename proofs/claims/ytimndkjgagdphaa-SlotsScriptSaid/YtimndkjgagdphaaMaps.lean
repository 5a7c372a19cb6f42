/- A map of whole numbers in a block of its own: what each operation makes of it. No program in sight but the type table. -/
import Derived.WalkKit
import Derived.MapKept
import Derived.WideKeyEntry
import Derived.Below
import Derived.Carry
import Derived.Lib.Hide
namespace Go.Proofs.Ytimndkjgagdphaa
open Go.RowKit
set_option linter.unusedVariables false
set_option linter.unusedSimpArgs false

/-- Block g is a map of n entries that reads as m. -/
def MapI (w : World) (g : Nat) (m : Int → Option Int) (n : Nat) : Prop :=
  ∃ es c, w.heap[g]? = some (.map es c) ∧ MapKept.Stamped es c ∧ es.size = n ∧ (∀ e ∈ es.toList, ∃ k v, e.key = .int .i64 k ∧ e.val = .int .i64 v ∧ m k = some v) ∧
    ∀ k v, m k = some v → ∃ e ∈ es.toList, e.key = .int .i64 k ∧ e.val = .int .i64 v

def setM (w : World) (b : Nat) (o : Obj) : World := { w with heap := w.heap.setIfInBounds b o }
theorem setM_grown (w : World) (b : Nat) (o : Obj) : w.grownBy (setM w b o) (some b) :=
  ⟨rfl, rfl, rfl, by show _ ≤ (w.heap.setIfInBounds b o).size; simp, fun k hk hne => by
    show (w.heap.setIfInBounds b o)[k]? = _
    rw [Array.getElem?_setIfInBounds]
    rw [if_neg (fun e => hne (by rw [e]))]⟩
theorem setM_at {w : World} {b : Nat} {o o' : Obj} (hb : w.heap[b]? = some o) : (setM w b o').heap[b]? = some o' := (MapKept.heap_set hb).1
theorem mapI_lt {w : World} {g n : Nat} {m : Int → Option Int} (h : MapI w g m n) : g < w.heap.size := by
  obtain ⟨es, c, hb, _⟩ := h
  exact (Array.getElem?_eq_some_iff.1 hb).1
theorem mapI_keep {w w1 : World} {g n : Nat} {m : Int → Option Int} (h : MapI w g m n) (hk : w1.heap[g]? = w.heap[g]?) : MapI w1 g m n := by
  obtain ⟨es, c, hb, r⟩ := h
  exact ⟨es, c, hk.trans hb, r⟩
theorem mapI_new (w : World) : MapI (w.alloc (.map #[] 0)) w.heap.size (fun _ => none) 0 := by
  refine ⟨#[], 0, ?_, MapKept.stamped_empty 0, rfl, by simp, fun k v h => by cases h⟩
  show (w.heap.push _)[w.heap.size]? = _
  simp

section
variable {P : Program} {w : World} {g n : Nat} {m : Int → Option Int} {T kt et : TypeId}

theorem isKey_all {es : Array MapEntry} (h : ∀ e ∈ es.toList, ∃ k v, e.key = .int .i64 k ∧ e.val = .int .i64 v ∧ m k = some v) : ∀ x ∈ es.toList, MapKept.IsKey (.int .i64) x.key := by
  intro x hx
  obtain ⟨k, v, hk, _⟩ := h x hx
  rw [hk]; rfl

/-- What finding a key comes to. -/
theorem find_key {es : Array MapEntry} (h1 : ∀ e ∈ es.toList, ∃ k v, e.key = .int .i64 k ∧ e.val = .int .i64 v ∧ m k = some v)
    (h2 : ∀ k v, m k = some v → ∃ e ∈ es.toList, e.key = .int .i64 k ∧ e.val = .int .i64 v) (x : Int) :
    (Instr.findNow (.int .i64) (.int .i64 x) es.toList 0 = some none ∧ m x = none ∧ ∀ e ∈ es.toList, e.key ≠ .int .i64 x) ∨
    ∃ j e v, Instr.findNow (.int .i64) (.int .i64 x) es.toList 0 = some (some (j, .int .i64 v)) ∧ es[j]? = some e ∧ e.key = .int .i64 x ∧ e.val = .int .i64 v ∧ m x = some v := by
  rcases MapKept.findNow_spec (d := .int .i64) (k := .int .i64 x) rfl es.toList 0 (isKey_all h1) with ⟨a, b⟩ | ⟨j, e, a, b, c⟩
  · left
    refine ⟨a, ?_, b⟩
    cases hm : m x with
    | none => rfl
    | some v =>
      obtain ⟨e, he, hk, _⟩ := h2 x v hm
      exact absurd hk (b e he)
  · right
    have hmem : e ∈ es.toList := List.mem_of_getElem? b
    obtain ⟨k, v, hk, hv, hmk⟩ := h1 e hmem
    have hkx : k = x := by rw [hk] at c; injection c
    subst hkx
    refine ⟨j, e, v, ?_, by simpa using b, hk, hv, hmk⟩
    rw [a, hv]; simp

theorem lookup_ok (ht : P.underlying T = some (.map kt et)) (hk : P.underlying kt = some (.int .i64)) (hz : (zeroValue et).run P w = .ok (.int .i64 0) w) (h : MapI w g m n) (x : Int) :
    (Instr.lookup T (.map (some g)) (.int .i64 x) true).run P w = .ok (.tuple #[.int .i64 ((m x).getD 0), .bool (m x).isSome]) w := by
  obtain ⟨es, c, hb, hs, hn, h1, h2⟩ := h
  rcases find_key h1 h2 x with ⟨a, b, _⟩ | ⟨j, e, v, a, _, _, _, b⟩
  · rw [b]
    simp [Instr.lookup, run_underlying ht, MapKept.run_getObj_map hb, MapKept.run_checkKey hk (k := .int .i64 x) rfl, MapKept.run_findKey hk a, hz, Result.andThen]
  · rw [b]
    simp [Instr.lookup, run_underlying ht, MapKept.run_getObj_map hb, MapKept.run_checkKey hk (k := .int .i64 x) rfl, MapKept.run_findKey hk a, hz, Result.andThen]
theorem lookup_one (ht : P.underlying T = some (.map kt et)) (hk : P.underlying kt = some (.int .i64)) (hz : (zeroValue et).run P w = .ok (.int .i64 0) w) (h : MapI w g m n) (x : Int) :
    (Instr.lookup T (.map (some g)) (.int .i64 x) false).run P w = .ok (.int .i64 ((m x).getD 0)) w := by
  obtain ⟨es, c, hb, hs, hn, h1, h2⟩ := h
  rcases find_key h1 h2 x with ⟨a, b, _⟩ | ⟨j, e, v, a, _, _, _, b⟩
  · rw [b]
    simp [Instr.lookup, run_underlying ht, MapKept.run_getObj_map hb, MapKept.run_checkKey hk (k := .int .i64 x) rfl, MapKept.run_findKey hk a, hz, Result.andThen]
  · rw [b]
    simp [Instr.lookup, run_underlying ht, MapKept.run_getObj_map hb, MapKept.run_checkKey hk (k := .int .i64 x) rfl, MapKept.run_findKey hk a, hz, Result.andThen]
theorem len_map (ht : P.underlying T = some (.map kt et)) (h : MapI w g m n) (ty : TypeId) : (Builtin.len_ #[T] ty #[.map (some g)]).run P w = .ok (.int .i64 n) w := by
  obtain ⟨es, c, hb, hs, hn, h1, h2⟩ := h
  subst hn
  simp [Builtin.len_, run_underlying ht, MapKept.run_getObj_map hb, Result.andThen, goInt]

theorem delete_map (ht : P.underlying T = some (.map kt et)) (hk : P.underlying kt = some (.int .i64)) (h : MapI w g m n) (x : Int) (ts : TypeId) {v : Int} (hx : m x = some v) :
    ∃ w', (∀ ty, (Builtin.delete_ #[T, ts] ty #[.map (some g), .int .i64 x]).run P w = .ok (.tuple #[]) w') ∧ w.grownBy w' (some g) ∧ MapI w' g (fun k => if k = x then none else m k) (n - 1) := by
  obtain ⟨es, c, hb, hs, hn, h1, h2⟩ := h
  rcases find_key h1 h2 x with ⟨a, b, _⟩ | ⟨j, e, v', a, hj, hke, hve, b⟩
  · rw [b] at hx; cases hx
  · refine ⟨setM w g (.map (es.eraseIdxIfInBounds j) c), ?_, setM_grown _ _ _, es.eraseIdxIfInBounds j, c, setM_at hb, MapKept.stamped_erase hs j, ?_, ?_, ?_⟩
    · intro ty
      simp [Builtin.delete_, run_underlying ht, MapKept.run_getObj_map hb, MapKept.run_checkKey hk (k := .int .i64 x) rfl, MapKept.run_findKey hk a, MapKept.run_setObj_map _ hb, Result.andThen, setM]
    all_goals
      have hjl : j < es.size := (Array.getElem?_eq_some_iff.1 hj).1
      have hl : (es.eraseIdxIfInBounds j).toList = es.toList.eraseIdx j := by
        unfold Array.eraseIdxIfInBounds
        rw [dif_pos hjl, Array.toList_eraseIdx]
      have hj2 : es.toList[j]? = some e := by simpa using hj
    · have : (es.eraseIdxIfInBounds j).toList.length = n - 1 := by
        rw [hl, List.length_eraseIdx_of_lt (by simpa using hjl)]
        rw [← hn]; simp
      rw [← Array.length_toList]; exact this
    · intro e' he'
      rw [hl] at he'
      obtain ⟨i, hne, hi⟩ := List.mem_eraseIdx_iff_getElem?.1 he'
      obtain ⟨k, v, hk', hv', hm'⟩ := h1 e' (List.mem_of_getElem? hi)
      refine ⟨k, v, hk', hv', ?_⟩
      have hkx : k ≠ x := by
        intro e1
        subst e1
        have hnd := hs.2.2
        have e2 : (es.toList.map (·.key))[i]? = (es.toList.map (·.key))[j]? := by
          rw [List.getElem?_map, List.getElem?_map, hi, hj2]
          simp [hk', hke]
        have hil : i < (es.toList.map (·.key)).length := by
          rw [List.length_map]
          exact (List.getElem?_eq_some_iff.1 hi).1
        exact hne ((List.getElem?_inj hil hnd).1 e2)
      show (if k = x then none else m k) = some v
      rw [if_neg hkx]; exact hm'
    · intro k v hm'
      by_cases hkx : k = x
      · simp [hkx] at hm'
      · simp [hkx] at hm'
        obtain ⟨e', he', hk', hv'⟩ := h2 k v hm'
        refine ⟨e', ?_, hk', hv'⟩
        rw [hl]
        obtain ⟨i, hi⟩ := List.getElem?_of_mem he'
        refine List.mem_eraseIdx_iff_getElem?.2 ⟨i, ?_, hi⟩
        intro e1
        subst e1
        rw [hi] at hj2
        injection hj2 with hj2
        subst hj2
        rw [hk'] at hke
        injection hke with _ hke
        exact hkx hke

theorem put_new (ht : P.underlying T = some (.map kt et)) (hk : P.underlying kt = some (.int .i64)) (hz : ∀ u : World, (zeroValue et).run P u = .ok (.int .i64 0) u) (h : MapI w g m n) (x v : Int) (hx : m x = none) :
    ∃ st w1 w2, (Instr.mapEntry T (.map (some g)) (.int .i64 x)).run P w = .ok (.tuple #[.int .i64 0, .int .i64 st]) w1 ∧
      (Instr.entryStore T (.map (some g)) (.int .i64 st) (.int .i64 v)).run P w1 = .ok () w2 ∧ w.grownBy w1 (some g) ∧ w.grownBy w2 (some g) ∧ MapI w2 g (fun k => if k = x then some v else m k) (n + 1) := by
  obtain ⟨es, c, hb, hs, hn, h1, h2⟩ := h
  rcases find_key h1 h2 x with ⟨a, b, hnk⟩ | ⟨j, e, v', a, hj, hke, hve, b⟩
  · have hb1 : (setM w g (.map (es.push ⟨.int .i64 x, .int .i64 0, c⟩) (c + 1))).heap[g]? = some (.map (es.push ⟨.int .i64 x, .int .i64 0, c⟩) (c + 1)) := setM_at hb
    refine ⟨c, setM w g (.map (es.push ⟨.int .i64 x, .int .i64 0, c⟩) (c + 1)), setM (setM w g (.map (es.push ⟨.int .i64 x, .int .i64 0, c⟩) (c + 1))) g (.map (es.push ⟨.int .i64 x, .int .i64 v, c⟩) (c + 1)), ?_, ?_, setM_grown _ _ _, ?_, ?_⟩
    · simp [Instr.mapEntry, run_underlying ht, MapKept.run_getObj_map hb, MapKept.run_checkKey hk (k := .int .i64 x) rfl, MapKept.run_findKey hk a, hz, MapKept.run_setObj_map _ hb, Result.andThen, setM, goInt]
    · have hidx : (es.push ⟨.int .i64 x, .int .i64 0, c⟩).findIdx? (fun e => ((e.born : Nat) : Int) == ((c : Nat) : Int)) = some es.size := by
        rw [WideElems.findIdx_arr]
        have := WideElems.findIdx_born (l := (es.push ⟨.int .i64 x, .int .i64 0, c⟩).toList) (j := es.size) (e0 := ⟨.int .i64 x, .int .i64 0, c⟩) (by
          simp only [Array.toList_push, List.map_append, List.map_cons, List.map_nil]
          refine List.nodup_append.2 ⟨hs.2.1, by simp, fun a ha c' hc e1 => ?_⟩
          simp only [List.mem_singleton] at hc
          obtain ⟨y, hy, rfl⟩ := List.mem_map.1 ha
          have := hs.1 y hy
          omega) (by simp)
        exact this
      have hmod : (es.push ⟨.int .i64 x, .int .i64 0, c⟩).modify es.size (fun e => { e with val := .int .i64 v }) = es.push ⟨.int .i64 x, .int .i64 v, c⟩ := by
        apply Array.ext'
        rw [Array.toList_modify, Array.toList_push, Array.toList_push, ← Array.length_toList, WideElems.modify_last]
      simp [Instr.entryStore, MapKept.run_getObj_map hb1, asInt, asIntOf, hidx, hmod, MapKept.run_setObj_map _ hb1, Result.andThen]
      simp [setM]
    · have q1 := setM_grown w g (.map (es.push ⟨.int .i64 x, .int .i64 0, c⟩) (c + 1))
      have q2 := setM_grown (setM w g (.map (es.push ⟨.int .i64 x, .int .i64 0, c⟩) (c + 1))) g (.map (es.push ⟨.int .i64 x, .int .i64 v, c⟩) (c + 1))
      exact ⟨q2.os.trans q1.os, q2.tape.trans q1.tape, q2.output.trans q1.output, Nat.le_trans q1.size q2.size, fun i hi hne => (q2.block i (Nat.lt_of_lt_of_le hi q1.size) hne).trans (q1.block i hi hne)⟩
    · refine ⟨es.push ⟨.int .i64 x, .int .i64 v, c⟩, c + 1, setM_at hb1, MapKept.stamped_push hs hnk, by simp [hn], ?_, ?_⟩
      · intro e he
        rw [Array.toList_push, List.mem_append, List.mem_singleton] at he
        rcases he with he | rfl
        · obtain ⟨k, v', hk', hv', hm'⟩ := h1 e he
          refine ⟨k, v', hk', hv', ?_⟩
          have : k ≠ x := fun e1 => hnk e he (by rw [hk', e1])
          simp [this, hm']
        · exact ⟨x, v, rfl, rfl, by simp⟩
      · intro k v' hm'
        by_cases hkx : k = x
        · simp [hkx] at hm'
          exact ⟨⟨.int .i64 x, .int .i64 v, c⟩, by simp, by rw [hkx], by rw [hm']⟩
        · simp [hkx] at hm'
          obtain ⟨e, he, hk', hv'⟩ := h2 k v' hm'
          exact ⟨e, by simp at he ⊢; exact .inl he, hk', hv'⟩
  · rw [hx] at b; cases b
end
end Go.Proofs.Ytimndkjgagdphaa
