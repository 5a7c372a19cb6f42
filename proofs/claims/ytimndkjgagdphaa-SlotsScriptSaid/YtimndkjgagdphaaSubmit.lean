/- The walk of slots' Submit. -/
import Derived.Test.YtimndkjgagdphaaFree
import Derived.Deep.RegionHeld3
namespace Go.Proofs.Ytimndkjgagdphaa
open Go.RowKit
set_option linter.unusedVariables false
set_option linter.unusedSimpArgs false

def SS.least (s : SS) : Int := if s.who 0 = 0 then 0 else if s.who 1 = 0 then 1 else if s.who 2 = 0 then 2 else 3
def SS.put (s : SS) : SS := { s with last := s.last + 1, who := fun k => if k = s.least then s.last + 1 else s.who k }
/-- The state behind a Submit; the verdict, the number, the slot. -/
def SS.submit (s : SS) (may : Bool) : SS × Int × Int × Int :=
  if may = false then (s, 1, 0, 0) else if (s.cnt : Int) = s.most then (s, 2, 0, 0) else (s.put, 3, s.last + 1, s.least)

theorem who_out {s : SS} (h : WFs s) (k : Int) (hk : k < 0 ∨ s.most ≤ k) : s.who k = 0 :=
  Classical.byContradiction fun hn => by have := h.wh k hn; omega
theorem b1_zero {x : Int} (h : x = 0) : b1 x = 0 := if_pos h
theorem b1_one {x : Int} (h : x ≠ 0) : b1 x = 1 := if_neg h
theorem cnt_le {s : SS} (h : WFs s) : (s.cnt : Int) ≤ s.most := by
  have hm0 := h.m0
  have hm1 := h.m1
  unfold SS.cnt
  have le1 : ∀ x, b1 x ≤ 1 := fun x => by unfold b1; split <;> omega
  have a0 := le1 (s.who 0)
  have a1 := le1 (s.who 1)
  have a2 := le1 (s.who 2)
  have a3 := le1 (s.who 3)
  have o1 : s.most ≤ 1 → b1 (s.who 1) = 0 := fun hh => b1_zero (who_out h 1 (.inr hh))
  have o2 : s.most ≤ 2 → b1 (s.who 2) = 0 := fun hh => b1_zero (who_out h 2 (.inr hh))
  have o3 : s.most ≤ 3 → b1 (s.who 3) = 0 := fun hh => b1_zero (who_out h 3 (.inr hh))
  omega
theorem least_ok {s : SS} (h : WFs s) (hc : (s.cnt : Int) ≠ s.most) : s.who s.least = 0 ∧ 0 ≤ s.least ∧ s.least < s.most ∧ ∀ j, 0 ≤ j → j < s.least → s.who j ≠ 0 := by
  have hm0 := h.m0
  have hm1 := h.m1
  have o1 : s.most ≤ 1 → s.who 1 = 0 := fun hh => who_out h 1 (.inr hh)
  have o2 : s.most ≤ 2 → s.who 2 = 0 := fun hh => who_out h 2 (.inr hh)
  have o3 : s.most ≤ 3 → s.who 3 = 0 := fun hh => who_out h 3 (.inr hh)
  unfold SS.cnt at hc
  unfold SS.least
  by_cases a0 : s.who 0 = 0
  · rw [if_pos a0]; exact ⟨a0, by omega, by omega, fun j h1 h2 => by omega⟩
  · rw [if_neg a0]
    rw [b1_one a0] at hc
    by_cases a1 : s.who 1 = 0
    · rw [if_pos a1]
      rw [b1_zero a1] at hc
      refine ⟨a1, by omega, ?_, fun j h1 h2 => (show j = 0 by omega).symm ▸ a0⟩
      by_cases hm : s.most ≤ 1
      · rw [b1_zero (o2 (by omega)), b1_zero (o3 (by omega))] at hc; omega
      · omega
    · rw [if_neg a1]
      rw [b1_one a1] at hc
      by_cases a2 : s.who 2 = 0
      · rw [if_pos a2]
        rw [b1_zero a2] at hc
        refine ⟨a2, by omega, ?_, fun j h1 h2 => by rcases (show j = 0 ∨ j = 1 by omega) with rfl | rfl; exact a0; exact a1⟩
        by_cases hm : s.most ≤ 2
        · by_cases hm2 : s.most ≤ 1
          · exact absurd (o1 hm2) a1
          · rw [b1_zero (o3 (by omega))] at hc; omega
        · omega
      · rw [if_neg a2]
        rw [b1_one a2] at hc
        by_cases a3 : s.who 3 = 0
        · rw [b1_zero a3] at hc
          refine ⟨a3, by omega, ?_, fun j h1 h2 => by rcases (show j = 0 ∨ j = 1 ∨ j = 2 by omega) with rfl | rfl | rfl; exact a0; exact a1; exact a2⟩
          by_cases hm : s.most ≤ 3
          · by_cases hm2 : s.most ≤ 2
            · exact absurd (o2 hm2) a2
            · omega
          · omega
        · rw [b1_one a3] at hc
          exfalso
          by_cases hm : s.most ≤ 3
          · exact a3 (o3 hm)
          · omega
theorem wfs_put {s : SS} (h : WFs s) (hc : (s.cnt : Int) ≠ s.most) (hl : s.last < 1000) : WFs s.put := by
  obtain ⟨q0, q1, q2, q3⟩ := least_ok h hc
  have l0 := h.l0
  refine ⟨h.m0, h.m1, by show 0 ≤ s.last + 1; omega, by show s.last + 1 ≤ 1000; omega, fun k hk => ?_, fun a b ha hab => ?_⟩
  · have hk' : (if k = s.least then s.last + 1 else s.who k) ≠ 0 := hk
    show 0 ≤ k ∧ k < s.most ∧ 1 ≤ (if k = s.least then s.last + 1 else s.who k) ∧ (if k = s.least then s.last + 1 else s.who k) ≤ s.last + 1
    by_cases hkl : k = s.least
    · rw [if_pos hkl]; omega
    · rw [if_neg hkl] at hk' ⊢
      have := h.wh k hk'
      omega
  · have ha' : (if a = s.least then s.last + 1 else s.who a) ≠ 0 := ha
    have hab' : (if a = s.least then s.last + 1 else s.who a) = (if b = s.least then s.last + 1 else s.who b) := hab
    by_cases h1 : a = s.least
    · by_cases h2 : b = s.least
      · rw [h1, h2]
      · rw [if_pos h1, if_neg h2] at hab'
        have := h.wh b (by omega)
        omega
    · rw [if_neg h1] at ha' hab'
      by_cases h2 : b = s.least
      · rw [if_pos h2] at hab'
        have := h.wh a ha'
        omega
      · rw [if_neg h2] at hab'
        exact h.inj a b ha' hab'
theorem cnt_put {s : SS} (h : WFs s) (hc : (s.cnt : Int) ≠ s.most) : s.put.cnt = s.cnt + 1 := by
  obtain ⟨q0, q1, q2, q3⟩ := least_ok h hc
  have hm1 := h.m1
  have l0 := h.l0
  have hb : b1 (s.last + 1) = 1 := b1_one (by omega)
  have hz := b1_zero q0
  unfold SS.cnt SS.put
  simp only
  have : s.least = 0 ∨ s.least = 1 ∨ s.least = 2 ∨ s.least = 3 := by omega
  rcases this with e | e | e | e
  all_goals
    rw [e] at hz
    simp [e, hb, hz]
    try omega

theorem chg_drew {lo hi : Nat} {w w1 : World} (h : Chg lo hi w w1) : Chg lo hi w w1.drew := ⟨h.os, h.tape, h.output, h.size, h.block⟩
theorem chg_drewN {lo hi : Nat} {w w1 : World} (h : Chg lo hi w w1) (n : Nat) : Chg lo hi w (w1.drewN n) := ⟨h.os, h.tape, h.output, h.size, h.block⟩
theorem grown_set0 (w : World) (p : Addr) (v : Value) : w.grownBy (w.setCell p v) (some p.block) :=
  ⟨rfl, rfl, rfl, by simp, fun k hk hne => Below.heap_setCell w p v k (fun e => hne (by rw [e]))⟩

/-- The four steps of the two stores, and what is left of it all. -/
theorem put_steps {w : World} {h : Nat} {s : SS} (hS : IsS w h s) (hc : (s.cnt : Int) ≠ s.most) (hl : s.last < 1000) :
    ∃ st1 st2 wa wb wc wd, 
      (Instr.mapEntry 53 (.map (some h)) (.int .i64 (s.last + 1))).run Try.prog (w.setCell ⟨h + 2, 1, none⟩ (.int .i64 (s.last + 1))).drew = .ok (.tuple #[.int .i64 0, .int .i64 st1]) wa ∧
      (Instr.entryStore 53 (.map (some h)) (.int .i64 st1) (.int .i64 s.least)).run Try.prog wa = .ok () wb ∧
      (Instr.mapEntry 53 (.map (some (h + 1))) (.int .i64 s.least)).run Try.prog wb = .ok (.tuple #[.int .i64 0, .int .i64 st2]) wc ∧
      (Instr.entryStore 53 (.map (some (h + 1))) (.int .i64 st2) (.int .i64 (s.last + 1))).run Try.prog wc = .ok () wd ∧
      (wa.cell? ⟨h + 2, 1, none⟩ = some (.int .i64 (s.last + 1)) ∧ wb.cell? ⟨h + 2, 1, none⟩ = some (.int .i64 (s.last + 1)) ∧ wc.cell? ⟨h + 2, 1, none⟩ = some (.int .i64 (s.last + 1))) ∧
      IsS wd h s.put ∧ Chg h (h + 3) w wd := by
  obtain ⟨q0, q1, q2, q3⟩ := least_ok hS.wf hc
  obtain ⟨mo, hmo, ho⟩ := hS.of
  obtain ⟨ma, na, hma, ha⟩ := hS.at'
  have hst := hS.st
  have hlt := isS_lt hS
  have g0 := grown_set0 w ⟨h + 2, 1, none⟩ (.int .i64 (s.last + 1))
  have hst0 : (w.setCell ⟨h + 2, 1, none⟩ (.int .i64 (s.last + 1))).drew.heap[h + 2]? = some (.cells #[.int .i64 s.most, .int .i64 (s.last + 1), .map (some h), .map (some (h + 1))] 55 (0, 0)) := by
    have h' : w.heap[h + 2] = .cells #[.int .i64 s.most, .int .i64 s.last, .map (some h), .map (some (h + 1))] 55 (0, 0) := by simpa [Array.getElem?_eq_getElem hlt] using hst
    show (w.heap.modify (h + 2) _)[h + 2]? = _
    rw [Array.getElem?_eq_getElem (by simpa using hlt), Array.getElem_modify_self, h']
    rfl
  have hmo0 : MapI (w.setCell ⟨h + 2, 1, none⟩ (.int .i64 (s.last + 1))).drew h mo s.cnt := mapI_keep hmo (g0.block h (by omega) (fun e => by injection e with e; exact absurd (show h = h + 2 from e) (by omega)))
  have hma0 : MapI (w.setCell ⟨h + 2, 1, none⟩ (.int .i64 (s.last + 1))).drew (h + 1) ma na := mapI_keep hma (g0.block (h + 1) (by omega) (fun e => by injection e with e; exact absurd (show h + 1 = h + 2 from e) (by omega)))
  have no1 : mo (s.last + 1) = none := by
    cases hg : mo (s.last + 1) with
    | none => rfl
    | some k =>
      obtain ⟨x1, x2⟩ := (ho _ _).1 hg
      have := hS.wf.wh k (by rw [x2]; exact x1)
      omega
  have no2 : ma s.least = none := by
    cases hg : ma s.least with
    | none => rfl
    | some id =>
      obtain ⟨x1, x2⟩ := (ha _ _).1 hg
      rw [q0] at x2
      exact absurd x2.symm x1
  obtain ⟨st1, wa, wb, r1, r2, ga, gb, i1⟩ := put_new Try.underlying53 Try.underlying3 zero3 hmo0 (s.last + 1) s.least no1
  have hma1 : MapI wb (h + 1) ma na := mapI_keep hma0 (gb.block _ (mapI_lt hma0) (fun e => by injection e with e; omega))
  obtain ⟨st2, wc, wd, r3, r4, gc, gd, i2⟩ := put_new Try.underlying53 Try.underlying3 zero3 hma1 s.least (s.last + 1) no2
  have sa : wa.heap[h + 2]? = some (.cells #[.int .i64 s.most, .int .i64 (s.last + 1), .map (some h), .map (some (h + 1))] 55 (0, 0)) := (ga.block _ (lt_of_block hst0) (fun e => by injection e with e; omega)).trans hst0
  have sb : wb.heap[h + 2]? = some (.cells #[.int .i64 s.most, .int .i64 (s.last + 1), .map (some h), .map (some (h + 1))] 55 (0, 0)) := (gb.block _ (lt_of_block hst0) (fun e => by injection e with e; omega)).trans hst0
  have sc : wc.heap[h + 2]? = some (.cells #[.int .i64 s.most, .int .i64 (s.last + 1), .map (some h), .map (some (h + 1))] 55 (0, 0)) := (gc.block _ (lt_of_block sb) (fun e => by injection e with e; omega)).trans sb
  have sd : wd.heap[h + 2]? = some (.cells #[.int .i64 s.most, .int .i64 (s.last + 1), .map (some h), .map (some (h + 1))] 55 (0, 0)) := (gd.block _ (lt_of_block sb) (fun e => by injection e with e; omega)).trans sb
  refine ⟨st1, st2, wa, wb, wc, wd, r1, r2, r3, r4, ⟨by simp [World.cell?, sa], by simp [World.cell?, sb], by simp [World.cell?, sc]⟩, ⟨wfs_put hS.wf hc hl, sd, ⟨fun k => if k = s.last + 1 then some s.least else mo k, ?_, fun id k => ?_⟩, ⟨_, _, i2, fun k id => ?_⟩⟩, ?_⟩
  · rw [cnt_put hS.wf hc]
    exact mapI_keep i1 (gd.block _ (mapI_lt i1) (fun e => by injection e with e; omega))
  · show (if id = s.last + 1 then some s.least else mo id) = some k ↔ (id ≠ 0 ∧ (if k = s.least then s.last + 1 else s.who k) = id)
    have l0 := hS.wf.l0
    by_cases h1 : id = s.last + 1
    · rw [if_pos h1]
      by_cases h2 : k = s.least
      · rw [if_pos h2, h2]
        exact ⟨fun _ => ⟨by omega, h1.symm⟩, fun _ => rfl⟩
      · rw [if_neg h2]
        constructor
        · intro e; injection e with e; exact absurd e.symm h2
        · rintro ⟨x1, x2⟩
          have := hS.wf.wh k (by rw [x2]; exact x1)
          omega
    · rw [if_neg h1]
      by_cases h2 : k = s.least
      · rw [if_pos h2]
        constructor
        · intro e
          obtain ⟨x1, x2⟩ := (ho _ _).1 e
          rw [h2, q0] at x2
          exact absurd x2.symm x1
        · rintro ⟨x1, x2⟩; exact absurd x2.symm h1
      · rw [if_neg h2]; exact ho id k
  · show (if k = s.least then some (s.last + 1) else ma k) = some id ↔ (id ≠ 0 ∧ (if k = s.least then s.last + 1 else s.who k) = id)
    have l0 := hS.wf.l0
    by_cases h2 : k = s.least
    · rw [if_pos h2, if_pos h2]
      constructor
      · intro e; injection e with e; exact ⟨by omega, e⟩
      · rintro ⟨_, e⟩; rw [e]
    · rw [if_neg h2, if_neg h2]; exact ha k id
  · exact (chg_drew (chg_grown g0 (by show h ≤ h + 2; omega) (by show h + 2 < h + 3; omega))).trans ((chg_grown gb (by omega) (by omega)).trans (chg_grown gd (by omega) (by omega)))

set_option maxRecDepth 100000 in
theorem submit_nil (q : ByteArray) (k n : Int) (w : World) :
    Calls Try.prog 12 #[.pointer none, .agg #[.string q, .int .i64 k, .int .i64 n]] w fun e w' => e = .returned (.tuple #[.int .i64 0, .int .i64 0, .int .i64 0]) ∧ Below w.heap.size w w' := by
  have HB0 := Lib.hid (below_al w (.cells #[.string q, .int .i64 k, .int .i64 n] 32 (0, 0)))
  go_enter Try.func12, Try.ntmps12
  go_wp2_with fail
  go_ret3
  exact ⟨rfl, HB0.out⟩

set_option maxRecDepth 100000 in
set_option maxHeartbeats 4000000 in
theorem submit_calls (h : Nat) (s : SS) (q : ByteArray) (k n : Int) (w : World) (hq : q.size ≤ 140737488351232) (hl : s.last < 1000) (hS : IsS w h s) :
    Calls Try.prog 12 #[.pointer (some ⟨h + 2, 0, none⟩), .agg #[.string q, .int .i64 k, .int .i64 n]] w fun e w' =>
      e = .returned (.tuple #[.int .i64 (s.submit (mayB q k n)).2.1, .int .i64 (s.submit (mayB q k n)).2.2.1, .int .i64 (s.submit (mayB q k n)).2.2.2]) ∧ IsS w' h (s.submit (mayB q k n)).1 ∧ Chg h (h + 3) w w' := by
  have M := Lib.hid (fun W => may_calls q k n W hq)
  have HB0 := Lib.hid (below_al w (.cells #[.string q, .int .i64 k, .int .i64 n] 32 (0, 0)))
  have HS0 := Lib.hid (isS_below hS HB0.out)
  have HS := Lib.hid hS
  clear hS
  generalize mayB q k n = may at *
  unfold SS.submit
  cases may with
  | false =>
    rw [if_pos rfl]
    go_enter Try.func12, Try.ntmps12
    go_wp2_with (go_at_call 13; refine (M.out _).mono ?_; rintro e w1 ⟨rfl, hb1⟩; have HB := Lib.hid hb1; clear hb1)
    go_ret3
    exact ⟨rfl, isS_below HS0.out HB.out, (chg_below HB0.out).trans (chg_below HB.out)⟩
  | true =>
    rw [if_neg (by simp)]
    by_cases hc : (s.cnt : Int) = s.most
    · rw [if_pos hc]
      have hcb : ((s.cnt : Int) == s.most) = true := by rw [hc]; simp
      clear hc
      go_enter Try.func12, Try.ntmps12
      go_wp2_with fail
      refine (M.out _).mono ?_
      rintro e w1 ⟨rfl, hb1⟩
      have HS1 := Lib.hid (isS_below HS0.out hb1)
      have HC1 := Lib.hid ((chg_below (lo := h) (hi := h + 3) HB0.out).trans (chg_below hb1))
      clear hb1 HS0 HB0 HS
      obtain ⟨c0, c1, c2, c3, f1⟩ := isS_cells HS1.out
      have hlen := fun ty => len_of (isS_drew HS1.out) ty
      go_wp2_with fail
      go_region
      go_wp2_with fail
      go_ret3
      exact ⟨rfl, isS_drew HS1.out, chg_drew HC1.out⟩
    · rw [if_neg hc]
      have hcb : ((s.cnt : Int) == s.most) = false := by rw [beq_eq_false_iff_ne]; exact hc
      obtain ⟨q0, q1, q2, q3⟩ := least_ok HS.out.wf hc
      have HQ := Lib.hid (And.intro q0 (And.intro q2 q3))
      have m1 := HS.out.wf.m1
      have l0 := HS.out.wf.l0
      have q2' : s.least < 4 := by omega
      have HC := Lib.hid hc
      clear q0 q2 q3 m1 hc
      go_enter Try.func12, Try.ntmps12
      go_wp2_with fail
      refine (M.out _).mono ?_
      rintro e w1 ⟨rfl, hb1⟩
      have HS1 := Lib.hid (isS_below HS0.out hb1)
      have HC1 := Lib.hid ((chg_below (lo := h) (hi := h + 3) HB0.out).trans (chg_below hb1))
      clear hb1 HS0 HB0 HS
      obtain ⟨c0, c1, c2, c3, f1⟩ := isS_cells HS1.out
      have hlen := fun ty => len_of (isS_drew HS1.out) ty
      go_wp2_with fail
      go_region
      have HS2 := Lib.hid (isS_drew HS1.out)
      have HC2 := Lib.hid (chg_drew HC1.out)
      clear hlen c0 c1 c2 c3 f1 HS1 HC1
      generalize w1.drew = w2 at *
      obtain ⟨c0, c1, c2, c3, f1⟩ := isS_cells HS2.out
      obtain ⟨st1, st2, wa, wb, wc, wd, r1, r2, r3, r4, ⟨ca, cb, cc⟩, i1, i2⟩ := put_steps HS2.out HC.out hl
      have HI1 := Lib.hid i1
      have HI2 := Lib.hid i2
      have HCD := Lib.hid (isS_cells HI1.out).2.1
      have HR1 := Lib.hid r1
      have HR2 := Lib.hid r2
      have HR3 := Lib.hid r3
      have HR4 := Lib.hid r4
      clear i1 i2 r1 r2 r3 r4
      go_wp2_with fail
      go_loop [7] (fun v => ∃ k : Int, v = .int .i64 k ∧ 0 ≤ k ∧ k ≤ s.least) (fun v => s.least.toNat - (intOf v).toNat)
      case atStart => exact ⟨0, rfl, by omega, q1⟩
      case round =>
        obtain ⟨k, rfl, hk0, hk1⟩ := hrel
        have hat := (look_at HS2.out k).2
        by_cases hlt : k < s.least
        · have hne := HQ.out.2.2 k hk0 hlt
          have hw := HS2.out.wf.wh k hne
          have hgt : decide (0 < s.who k) = true := decide_eq_true (by omega)
          clear hw hne
          go_wp2_with fail
          go_round
          case rel => exact ⟨k + 1, rfl, by omega, by omega⟩
          case measure => simp [intOf]; omega
        · obtain rfl : k = s.least := by omega
          rw [HQ.out.1] at hat
          have r1 := HR1.out
          have r2 := HR2.out
          have r3 := HR3.out
          have r4 := HR4.out
          go_wp2_with fail
          go_region
          have cd := HCD.out
          go_wp2_with fail
          go_region
          go_wp2_with fail
          go_ret3
          exact ⟨rfl, isS_drew HI1.out, chg_drew (HC2.out.trans HI2.out)⟩
end Go.Proofs.Ytimndkjgagdphaa
