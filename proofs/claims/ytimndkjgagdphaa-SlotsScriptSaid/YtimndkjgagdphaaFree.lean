/- The walks of slots' New, Free; of none. -/
import Derived.Test.YtimndkjgagdphaaState
namespace Go.Proofs.Ytimndkjgagdphaa
open Go.RowKit
set_option linter.unusedVariables false
set_option linter.unusedSimpArgs false

def SS.init (n : Int) : SS := ⟨n, 0, fun _ => 0⟩
theorem wfs_init (n : Int) (h0 : 1 ≤ n) (h1 : n ≤ 4) : WFs (SS.init n) := ⟨h0, h1, Int.le_refl _, by show (0 : Int) ≤ 1000; omega, fun k hk => absurd rfl hk, fun a b hk => absurd rfl hk⟩

theorem new_block (w : World) (o : Obj) : (w.alloc o).heap[w.heap.size]? = some o := by
  show (w.heap.push _)[w.heap.size]? = _
  simp
theorem old_block (w : World) (o : Obj) (k : Nat) (h : k < w.heap.size) : (w.alloc o).heap[k]? = w.heap[k]? := by
  show (w.heap.push _)[k]? = _
  rw [Array.getElem?_push, if_neg (by omega)]
theorem alloc_size (w : World) (o : Obj) : (w.alloc o).heap.size = w.heap.size + 1 := by
  show (w.heap.push _).size = _
  simp

set_option maxRecDepth 100000 in
set_option maxHeartbeats 2000000 in
theorem new_calls (n : Int) (h0 : 1 ≤ n) (h1 : n ≤ 4) (w : World) :
    Calls Try.prog 10 #[.int .i64 n] w fun e w' => ∃ h, e = .returned (.tuple #[.pointer (some ⟨h + 2, 0, none⟩), .int .i64 0]) ∧ w.heap.size ≤ h ∧ IsS w' h (SS.init n) ∧ Below w.heap.size w w' := by
  have hmm := @run_makeMap Try.prog
  go_enter Try.func10, Try.ntmps10
  go_wp2_with fail
  go_ret2
  refine ⟨w.heap.size, rfl, Nat.le_refl _, ?_, below_step0 (below_step0 (below_al _ _) (below_al _ _)) (below_al _ _)⟩
  have s1 := alloc_size w (.map #[] 0)
  have s2 := alloc_size (w.alloc (.map #[] 0)) (.map #[] 0)
  refine ⟨wfs_init n h0 h1, ?_, ⟨fun _ => none, ?_, fun id k => ⟨(fun h => by cases h), (fun h => absurd h.2.symm h.1)⟩⟩, ⟨fun _ => none, 0, ?_, fun k id => ⟨(fun h => by cases h), (fun h => absurd h.2.symm h.1)⟩⟩⟩
  · rw [show w.heap.size + 2 = ((w.alloc (.map #[] 0)).alloc (.map #[] 0)).heap.size from by omega]
    exact new_block _ _
  · refine mapI_keep (mapI_keep (mapI_new w) (old_block _ _ _ (by omega))) (old_block _ _ _ (by omega))
  · have := mapI_new (w.alloc (.map #[] 0))
    rw [s1] at this
    exact mapI_keep this (old_block _ _ _ (by omega))
set_option maxRecDepth 100000 in
theorem new_bad (n : Int) (h : ¬ (1 ≤ n ∧ n ≤ 4)) (w : World) :
    Calls Try.prog 10 #[.int .i64 n] w fun e w' => e = .returned (.tuple #[.pointer none, .int .i64 2]) ∧ w = w' := by
  by_cases h0 : n < 1
  · have h0b : decide (n < 1) = true := decide_eq_true h0
    go_enter Try.func10, Try.ntmps10
    go_wp2_with fail
    go_ret2
    exact ⟨rfl, rfl⟩
  · have h0b : decide (n < 1) = false := decide_eq_false h0
    have h1b : decide (4 < n) = true := decide_eq_true (by omega)
    clear h h0
    go_enter Try.func10, Try.ntmps10
    go_wp2_with fail
    go_ret2
    exact ⟨rfl, rfl⟩

/-! ### Free -/
def SS.free (s : SS) (id : Int) : SS := { s with who := fun k => if s.find id = some k then 0 else s.who k }
theorem free_none {s : SS} {id : Int} (h : s.find id = none) : s.free id = s := by
  unfold SS.free
  rw [h]
  simp
theorem wfs_free {s : SS} (h : WFs s) (id : Int) : WFs (s.free id) := by
  refine ⟨h.m0, h.m1, h.l0, h.l1, fun k hk => ?_, fun a b ha hab => ?_⟩
  · have hk' : (if s.find id = some k then 0 else s.who k) ≠ 0 := hk
    show 0 ≤ k ∧ k < s.most ∧ 1 ≤ (if s.find id = some k then 0 else s.who k) ∧ (if s.find id = some k then 0 else s.who k) ≤ s.last
    split at hk'
    · exact absurd rfl hk'
    · rename_i hn
      rw [if_neg hn]
      exact h.wh k hk'
  · have ha' : (if s.find id = some a then 0 else s.who a) ≠ 0 := ha
    have hab' : (if s.find id = some a then 0 else s.who a) = (if s.find id = some b then 0 else s.who b) := hab
    split at ha'
    · exact absurd rfl ha'
    · rename_i hn
      rw [if_neg hn] at hab'
      split at hab'
      · exact absurd hab' ha'
      · exact h.inj a b ha' hab'
theorem cnt_free {s : SS} (h : WFs s) {id k : Int} (hf : s.find id = some k) : (s.free id).cnt = s.cnt - 1 := by
  obtain ⟨hid, hk⟩ := (find_iff h id k).1 hf
  have hne : s.who k ≠ 0 := by rw [hk]; exact hid
  obtain ⟨k0, k1, _, _⟩ := h.wh k hne
  have m1 := h.m1
  unfold SS.cnt SS.free
  simp only [hf, Option.some.injEq]
  have hb : b1 (s.who k) = 1 := if_neg hne
  have h00 : b1 0 = 0 := rfl
  have : k = 0 ∨ k = 1 ∨ k = 2 ∨ k = 3 := by omega
  rcases this with rfl | rfl | rfl | rfl
  · (simp [h00, hb]; try omega)
  · (simp [h00, hb]; try omega)
  · (simp [h00, hb]; try omega)
  · (simp [h00, hb]; try omega)

set_option maxRecDepth 100000 in
set_option maxHeartbeats 2000000 in
theorem free_calls (h : Nat) (s : SS) (id : Int) (w : World) (hS : IsS w h s) :
    Calls Try.prog 11 #[.pointer (some ⟨h + 2, 0, none⟩), .int .i64 id] w fun e w' => e = .returned (.bool (s.find id).isSome) ∧ IsS w' h (s.free id) ∧ Chg h (h + 3) w w' := by
  have O := Lib.hid (fun W hS => of_calls h s id W hS)
  have HS := Lib.hid hS
  cases hf : s.find id with
  | none =>
    rw [hf] at O
    have HF := Lib.hid (free_none hf)
    clear hS hf
    go_enter Try.func11, Try.ntmps11
    go_wp2_with (go_at_call 19; refine (O.out _ HS.out).mono ?_; rintro e w' ⟨rfl, rfl⟩)
    go_ret
    rw [HF.out]
    exact ⟨rfl, HS.out, Chg.refl _ _ _⟩
  | some k =>
    rw [hf] at O
    obtain ⟨hid, hk⟩ := (find_iff hS.wf id k).1 hf
    obtain ⟨mo, hmo, ho⟩ := hS.of
    obtain ⟨ma, na, hma, ha⟩ := hS.at'
    obtain ⟨c0, c1, c2, c3, f1⟩ := isS_cells hS
    have hst := hS.st
    obtain ⟨w1, r1, g1, i1⟩ := delete_map Try.underlying53 Try.underlying3 hmo id 3 ((ho id k).2 ⟨hid, hk⟩)
    have hlt := isS_lt hS
    have hst1 : w1.heap[h + 2]? = some (.cells #[.int .i64 s.most, .int .i64 s.last, .map (some h), .map (some (h + 1))] 55 (0, 0)) := (g1.block _ hlt (fun e => by injection e with e; omega)).trans hst
    have d3 : w1.cell? ⟨h + 2, 3, none⟩ = some (.map (some (h + 1))) := by simp [World.cell?, hst1]
    have hma1 : MapI w1 (h + 1) ma na := mapI_keep hma (g1.block _ (by omega) (fun e => by injection e with e; omega))
    obtain ⟨w2, r2, g2, i2⟩ := delete_map Try.underlying53 Try.underlying3 hma1 k 3 ((ha k id).2 ⟨hid, hk⟩)
    have fin : IsS w2 h (s.free id) := by
      refine ⟨wfs_free hS.wf id, ?_, ⟨_, mapI_keep (cnt_free hS.wf hf ▸ i1) (g2.block _ (mapI_lt i1) (fun e => by injection e with e; omega)), fun id' k' => ?_⟩, ⟨_, _, i2, fun k' id' => ?_⟩⟩
      · exact (g2.block _ (lt_of_block hst1) (fun e => by injection e with e; omega)).trans hst1
      · show (if id' = id then none else mo id') = some k' ↔ (id' ≠ 0 ∧ (if s.find id = some k' then 0 else s.who k') = id')
        rw [hf]
        by_cases h1 : id' = id
        · rw [if_pos h1]
          constructor
          · intro e; cases e
          · rintro ⟨h2, h3⟩
            exfalso
            by_cases h4 : (some k : Option Int) = some k'
            · rw [if_pos h4] at h3; exact h2 h3.symm
            · rw [if_neg h4] at h3
              exact h4 (congrArg some (hS.wf.inj k k' (by rw [hk]; exact hid) (by rw [hk, h3, h1])))
        · rw [if_neg h1]
          by_cases h4 : (some k : Option Int) = some k'
          · rw [if_pos h4]
            injection h4 with h4
            subst h4
            constructor
            · intro e; exact absurd (((ho id' k).1 e).2.symm.trans hk) h1
            · rintro ⟨h2, h3⟩; exact absurd h3.symm h2
          · rw [if_neg h4]; exact ho id' k'
      · show (if k' = k then none else ma k') = some id' ↔ (id' ≠ 0 ∧ (if s.find id = some k' then 0 else s.who k') = id')
        rw [hf]
        by_cases h1 : k' = k
        · rw [if_pos h1, if_pos (by rw [h1])]
          constructor
          · intro e; cases e
          · rintro ⟨h2, h3⟩; exact absurd h3.symm h2
        · rw [if_neg h1, if_neg (fun e => h1 (by injection e with e; exact e.symm))]
          exact ha k' id'
    have FIN := Lib.hid fin
    have CH := Lib.hid (Chg.trans (chg_grown (lo := h) (hi := h + 3) g1 (by omega) (by omega)) (chg_grown (lo := h) (hi := h + 3) g2 (by omega) (by omega)))
    clear fin hS hf hmo ho hma ha hst hst1 hma1 i1 i2 g1 g2
    go_enter Try.func11, Try.ntmps11
    go_wp2_with (go_at_call 19; refine (O.out _ HS.out).mono ?_; rintro e w' ⟨rfl, rfl⟩)
    go_ret
    exact ⟨rfl, FIN.out, CH.out⟩
end Go.Proofs.Ytimndkjgagdphaa
